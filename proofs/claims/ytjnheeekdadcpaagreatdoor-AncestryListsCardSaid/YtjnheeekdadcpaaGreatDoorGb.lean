import Derived.Test.YtjnheeekdadcpaaGreatDoorGa
set_option linter.unusedSimpArgs false
set_option linter.unusedVariables false
namespace Go.Proofs.YtjnheeekdadcpaaGreatDoor
section
open Go Go.RowKit
variable {ro : Option Nat}
section
variable {C : World → World → Prop} {ρ σ α : Type} {P : Program} {Γ : Ctx} {l : Slots} {res : Res} {m m1 m2 : Option ρ} {os rest : List Oper} {N : ρ → Exit → Act → World → Prop} {Q : ρ → Exit → Act → World → Prop} {A B : Asn} {c : Code} {e : Exit}
  {d : Tmp} {ty : TypeId} {pos : String} {after : Array Edge} {g : Option (Nat × Bool)}
theorem Sta.kn {a : Act} {w : World} (ha : Sta Γ l res a w) {b b' : Bool} (t : Nat) (hb : lk l t = some (.rd boolR b)) (e : b = b') : Sta Γ ((t, .rd boolR b') :: l) res a w := ha.known hb e
theorem lSplit (t : Nat) {b : Bool} (hb : lk l t = some (.rd boolR b)) (ht : b = true → GL P os (Sta Γ ((t, .rd boolR true) :: l) res) rest N m1) (hf : b = false → GL P os (Sta Γ ((t, .rd boolR false) :: l) res) rest N m2) : GL P os (Sta Γ l res) rest N (if b then m1 else m2) := xIf t hb ht hf
theorem lKn {b b' : Bool} (t : Nat) (hb : lk l t = some (.rd boolR b)) (e : b = b') (h : GL P os (Sta Γ ((t, .rd boolR b') :: l) res) rest N m) : GL P os (Sta Γ l res) rest N m := fun a w ha => h a w (ha.kn t hb e)
theorem lName {R : Rep α} {x : α} {k : α → Option ρ} (t : Nat) (hx : lk l t = some (.rd R x)) (h : ∀ y, GL P os (Sta Γ ((t, .rd R y) :: l) res) rest N (k y)) : GL P os (Sta Γ l res) rest N (some x >>= k) := xName t hx h
theorem lBind {m : Option σ} {k : σ → Option ρ} (h : ∀ s, m = some s → GL P os A rest N (k s)) : GL P os A rest N (m >>= k) := xBind h
theorem lFrz {R : Rep α} {T : TypeId} {b : List α} {v : Value} (r : Nat) (ts : List Nat) (hr : lr res r = some (v, .list R T b)) (ht : FrL l v ts) (k : GL P os (Sta Γ (ts.map (fun t => (t, .rd (sliceR R) b)) ++ l) ((r, none) :: res)) rest N m) : GL P os (Sta Γ l res) rest N m := xFrz r ts hr ht k
theorem lRdNil (R : Rep α) (t : Nat) (ht : lk l t = some (.val (.slice none 0 0))) (k : GL P os (Sta Γ ((t, .rd (sliceR R) []) :: l) res) rest N m) : GL P os (Sta Γ l res) rest N m := xRdNil R t ht k
theorem qSplit (t : Nat) {b : Bool} (hb : lk l t = some (.rd boolR b)) (ht : b = true → GQ P os (Sta Γ ((t, .rd boolR true) :: l) res) rest N m1) (hf : b = false → GQ P os (Sta Γ ((t, .rd boolR false) :: l) res) rest N m2) : GQ P os (Sta Γ l res) rest N (if b then m1 else m2) := xIf t hb ht hf
theorem qKn {b b' : Bool} (t : Nat) (hb : lk l t = some (.rd boolR b)) (e : b = b') (h : GQ P os (Sta Γ ((t, .rd boolR b') :: l) res) rest N m) : GQ P os (Sta Γ l res) rest N m := fun a w ha => h a w (ha.kn t hb e)
theorem qName {R : Rep α} {x : α} {k : α → Option ρ} (t : Nat) (hx : lk l t = some (.rd R x)) (h : ∀ y, GQ P os (Sta Γ ((t, .rd R y) :: l) res) rest N (k y)) : GQ P os (Sta Γ l res) rest N (some x >>= k) := xName t hx h
theorem qBind {m : Option σ} {k : σ → Option ρ} (h : ∀ s, m = some s → GQ P os A rest N (k s)) : GQ P os A rest N (m >>= k) := xBind h
theorem gKn {b b' : Bool} (t : Nat) (hb : lk l t = some (.rd boolR b)) (e : b = b') (h : G ro P (Sta Γ ((t, .rd boolR b') :: l) res) c Q m) : G ro P (Sta Γ l res) c Q m := fun a w ha => h a w (ha.kn t hb e)
theorem gEx {ι : Type} {A : ι → Asn} (h : ∀ i, G ro P (A i) c Q m) : G ro P (fun a w => ∃ i, A i a w) c Q m := xEx h
theorem gFrz {R : Rep α} {T : TypeId} {b : List α} {v : Value} (r : Nat) (ts : List Nat) (hr : lr res r = some (v, .list R T b)) (ht : FrL l v ts) (k : G ro P (Sta Γ (ts.map (fun t => (t, .rd (sliceR R) b)) ++ l) ((r, none) :: res)) c Q m) : G ro P (Sta Γ l res) c Q m := xFrz r ts hr ht k
theorem gNew (R : Rep α) (T : TypeId) (r : Nat) (k : G ro P (Sta Γ l ((r, some (.slice none 0 0, .list R T [])) :: res)) c Q m) : G ro P (Sta Γ l res) c Q m := xNil R T r k
theorem eNew (R : Rep α) (T : TypeId) (r : Nat) (k : GE (Sta Γ l ((r, some (.slice none 0 0, .list R T [])) :: res)) e Q m) : GE (Sta Γ l res) e Q m := xNil R T r k
theorem Eb {r : Nat} {op : Op} {T : TypeId} {es : List Ent} (hn : Nat.blt d Γ.n = true) (he : Eff P Γ l res ⟨some d, op, ty, pos, after, none⟩ r (fun v => (v, .box T es)))
    (k : ∀ u, GL P os (Sta Γ ((d, .val (ptrTo u 0)) :: l) ((r, some (u, .box T es)) :: res)) rest N m) : GL P os (Sta Γ l res) (⟨some d, op, ty, pos, after, none⟩ :: rest) N m := fun a w ha ρ hm => by
  obtain ⟨w', u, h1, ⟨h2, _⟩, h3, _⟩ := he a w ha
  have hb := base_ptr (h2.conts r _ _ (lr_cons.trans (if_pos rfl)))
  exact st (g_none rfl) h1 (k u _ _ (h2.put hn ⟨by rw [hb], by rw [hb]; exact h3⟩) ρ hm)
theorem Bld.done {β : Type} {place : Nat → Option (Nat × Nat)} {R : Rep β} {x x' : β} (h : x = x') : Bld l place R [] x x' := h
def RdP {α : Type} (l : Slots) (R : Rep α) : Nat → List (Nat × Operand) → List α → Prop
  | _, [], [] => True
  | j, (i, o) :: ps, x :: xs => (i = j ∧ RdO l R o x) ∧ RdP l R (j + 1) ps xs
  | _, _, _ => False
theorem RdP.get {R : Rep α} : ∀ {ps : List (Nat × Operand)} {j : Nat} {xs : List α}, RdP l R j ps xs → ∃ os : List Operand, ps = (os.zipIdx j).map (fun x => (x.2, x.1)) ∧ RdA l R os xs
  | [], _, [], _ => ⟨[], rfl, trivial⟩
  | (i, o) :: ps, j, x :: xs, h => by
    obtain ⟨os, h1, h2⟩ := RdP.get h.2
    obtain ⟨⟨rfl, h4⟩, _⟩ := h
    exact ⟨o :: os, by rw [h1]; simp, h4, h2⟩
  | [], _, _ :: _, h => h.elim
  | _ :: _, _, [], h => h.elim
theorem lit {R : Rep α} (b : List α) {n : Nat} {parts : List (Nat × Operand)} {z : Value} {T e : TypeId} {by_ : Nat} (r : Nat) (hx : RdP l R 0 parts b) (hl : b.length = n)
    (hT : P.underlying T = some (.slice e)) (hE : TI P e z R.sz by_) (h0 : Nat.blt 0 R.sz = true) (hm : Nat.ble (n * R.sz) 16777216 = true) :
    Eff P Γ l res ⟨some d, .buildSlice T n parts.toArray, ty, pos, after, g⟩ r (fun u => (u, .list R e b)) := by
  obtain ⟨os, rfl, h2⟩ := hx.get
  exact lits b os r rfl h2 hl hT hE h0 hm
theorem litA {R : Rep α} {n : Nat} (b : List α) (v : Vector α n) {T e : TypeId} {z : Value} {sz by_ by2 : Nat} {ze : Value} {parts : List (Nat × Operand)} (hx : RdP l R 0 parts b) (hv : v.toList = b) (hT : P.underlying T = some (.array n e)) (hI : TI P T z sz by_) (hzs : z.cells.size = n * R.sz) (hE : TI P e ze R.sz by2) :
    Run C P Γ l res ⟨some d, .build T parts.toArray, ty, pos, after, g⟩ (.rd (arrR n R) v) := by
  obtain ⟨os, rfl, h2⟩ := hx.get
  exact bldA b v os hT hI hzs hE rfl h2 hv
theorem ZeroIs.val {u : Value} (h : u.oneCell' = true) : ZeroIs u [.val u] := fun S w => ⟨[u], by simp [catC], ⟨rfl, h⟩, trivial⟩
theorem ZeroIs.zr {R : Rep α} {x : α} {z : Value} (h : Zr R z.cells.toList x) : ZeroIs z [.rd R x] := ZeroIs.rd h
theorem TyIs.sc {t : TypeId} {n : Nat} (h : Sc P t) : TyIs P t false n := h
theorem TyIs.ag {t : TypeId} {n : Nat} {z : Value} {by_ : Nat} (h : Ag P t) (k : TI P t z n by_) : TyIs P t true n := ⟨h, z, by_, k⟩
def andI (a b : Int) : Int := bitsOf .and .i64 a b
def orI (a b : Int) : Int := bitsOf .or .i64 a b
def xorI (a b : Int) : Int := bitsOf .xor .i64 a b
def shlI (a : Int) (n : Nat) : Int := w64 (a * 2 ^ (min n 64))
def shrI (a : Int) (n : Nat) : Int := a.fdiv (2 ^ (min n 64))
theorem I.and {x y : Operand} {T T' : TypeId} {a b : Int} (hx : opE l x = some (.rd i64R a)) (hy : opE l y = some (.rd i64R b)) : Run C P Γ l res ⟨some d, .binOp .and T x y T', ty, pos, after, g⟩ (.rd i64R (andI a b)) := bitsL (γ := Unit) hx hy rfl rfl
theorem I.or {x y : Operand} {T T' : TypeId} {a b : Int} (hx : opE l x = some (.rd i64R a)) (hy : opE l y = some (.rd i64R b)) : Run C P Γ l res ⟨some d, .binOp .or T x y T', ty, pos, after, g⟩ (.rd i64R (orI a b)) := bitsL (γ := Unit) hx hy rfl rfl
theorem I.xor {x y : Operand} {T T' : TypeId} {a b : Int} (hx : opE l x = some (.rd i64R a)) (hy : opE l y = some (.rd i64R b)) : Run C P Γ l res ⟨some d, .binOp .xor T x y T', ty, pos, after, g⟩ (.rd i64R (xorI a b)) := bitsL (γ := Unit) hx hy rfl rfl
theorem I.shl {β : Type} {k' : IntKind} {f2 : β → Int} {x y : Operand} {T T' : TypeId} {a : Int} {b : β} (hx : opE l x = some (.rd i64R a)) (hy : opE l y = some (.rd (numR k' f2) b)) (h0 : 0 ≤ f2 b) : Run C P Γ l res ⟨some d, .binOp .shl T x y T', ty, pos, after, g⟩ (.rd i64R (shlI a (f2 b).toNat)) := shlL hx hy h0 rfl
theorem I.shr {β : Type} {k' : IntKind} {f2 : β → Int} {x y : Operand} {T T' : TypeId} {a : Int} {b : β} (hx : opE l x = some (.rd i64R a)) (hy : opE l y = some (.rd (numR k' f2) b)) (h0 : 0 ≤ f2 b) : Run C P Γ l res ⟨some d, .binOp .shr T x y T', ty, pos, after, g⟩ (.rd i64R (shrI a (f2 b).toNat)) := shrL hx hy h0 rfl
theorem lNilE {R : Rep α} {b : List α} {x y : Operand} {T T' e : TypeId} {E : Ent} (hn : Nat.blt d Γ.n = true) (hx : opE l x = some E) (hv : Vw R res E b) (hy : opE l y = some (.val (.slice none 0 0))) (hT : P.underlying T = some (.slice e))
    (ht : b = [] → GL P os (Sta Γ ((d, .rd boolR true) :: l) res) rest N m) (hf : GL P os (Sta Γ ((d, .rd boolR false) :: l) res) rest N m) : GL P os (Sta Γ l res) (⟨some d, .binOp .eql T x y T', ty, pos, after, none⟩ :: rest) N m := fun a w ha r hm => by
  obtain ⟨p, c, xs, h5, h2, h3⟩ := hv.get ha (ha.vl hx)
  have hrun := q0_eqlNil (P := P) (w := w) (d := d) (ty := ty) (pos := pos) (after := after) (g := none) (T' := T') hT h5 (ha.vl hy).1
  refine st (g_none rfl) hrun ?_
  by_cases hp : p = none
  · have hb : b = [] := by
      subst hp
      rcases h2.2 with ⟨_, h0⟩ | ⟨b', o, sp, cap, hv, _⟩
      · exact List.eq_nil_of_length_eq_zero h0
      · cases hv
    exact ht hb _ w (ha.put hn (by rw [decide_eq_true hp]; exact rd_bool')) r hm
  · exact hf _ w (ha.put hn (by rw [decide_eq_false hp]; exact rd_bool')) r hm
theorem Sta.frzB {a : Act} {w : World} (ha : Sta Γ l res a w) {R : Rep α} {T : TypeId} {x : α} {v : Value} (r t : Nat) (hr : lr res r = some (v, .box T [.rd R x])) (ht : lk l t = some (.val (ptrTo v 0))) : Sta Γ ((t, .rp R x) :: l) ((r, none) :: res) a w := by
  have hst : Stay (Shr Γ.H res w) (Shr Γ.H ((r, none) :: res) w) w w := fun bb hb => ⟨⟨hb.1, fun r' v' c' hr' => by
    rw [lr_cons] at hr'
    split at hr'
    · cases hr'
    · exact hb.2.1 r' v' c' hr', hb.2.2⟩, rfl⟩
  have hsub : ∀ r' v' c', lr ((r, none) :: res) r' = some (v', c') → r ≠ r' ∧ lr res r' = some (v', c') := fun r' v' c' hr' => by
    rw [lr_cons] at hr'
    split at hr'
    · cases hr'
    · exact ⟨‹_›, hr'⟩
  refine ⟨ha.size, ha.defers, fun t' e ht' => ?_, fun r' v' c' hr' => (ha.conts r' v' c' (hsub _ _ _ hr').2).mono hst (fun _ _ => rfl), fun r1 v1 c1 r2 v2 c2 h1 h2 hne => ha.excl r1 v1 c1 r2 v2 c2 (hsub _ _ _ h1).2 (hsub _ _ _ h2).2 hne, fun r' v' c' hr' => ha.own r' v' c' (hsub _ _ _ hr').2, ha.keep, ha.old, ha.hid⟩
  rw [lk_cons] at ht'
  split at ht'
  · rename_i hh; subst hh; cases ht'
    obtain ⟨u, h1, rfl, -⟩ := ha.slots t _ ht
    rcases ha.conts r v _ hr with h2 | ⟨b, o, h2, h3, b', vs, rfl, rfl, h4⟩
    · exact h2.elim
    · match vs, h4 with
      | [y], ⟨⟨cs, h5, h6⟩, _⟩ =>
        simp only [rblk, Option.some.injEq] at h2
        subst h2
        refine ⟨_, h1, b', 0, cs, rfl, ⟨(Array.getElem?_eq_some_iff.1 h3).1, fun r' v' c' hr' e => ?_, fun hH => ha.own r _ _ hr b' rfl (ha.hid b' hH)⟩, R.mono hst h5, fun j q hq => ?_⟩
        · obtain ⟨k1, k2⟩ := hsub _ _ _ hr'
          exact ha.excl r _ _ r' v' c' hr k2 k1 b' rfl e
        · have hB : Bx w b' (catC [y]).toArray T := h3
          have hcl : catC [y] = cs := by rw [h6]; simp [catC, Rep.val_cells h5]
          rw [hB.cell, hcl]; simpa using hq
  · obtain ⟨u, h1, h2⟩ := ha.slots t' e ht'
    exact ⟨u, h1, e.mono hst h2⟩
theorem lFrzB {R : Rep α} {T : TypeId} {x : α} {v : Value} (r t : Nat) (hr : lr res r = some (v, .box T [.rd R x])) (ht : lk l t = some (.val (ptrTo v 0))) (k : GL P os (Sta Γ ((t, .rp R x) :: l) ((r, none) :: res)) rest N m) : GL P os (Sta Γ l res) rest N m := fun a w ha => k a w (ha.frzB r t hr ht)
theorem gFrzB {R : Rep α} {T : TypeId} {x : α} {v : Value} (r t : Nat) (hr : lr res r = some (v, .box T [.rd R x])) (ht : lk l t = some (.val (ptrTo v 0))) (k : G ro P (Sta Γ ((t, .rp R x) :: l) ((r, none) :: res)) c Q m) : G ro P (Sta Γ l res) c Q m := fun a w ha => k a w (ha.frzB r t hr ht)
theorem callg {σ : Type} {f : FuncId} {F : Func} {b : Code} {args : List Operand} {ats : Array TypeId} {pin : List Ent} {rin : Res} {m1 : Option σ} {q : σ → (Nat → Value) → Post} {kk : σ → Option ρ} (ns : List Nat) (mp : List (Nat × Nat)) (hg : Grd os l ⟨some d, .call ⟨.value (.func f), args.toArray, ats⟩, ty, pos, after, g⟩ true) (hn : Nat.blt d Γ.n = true)
    (hF : P.funcs[f]? = some F) (hB : F.body = some b) (hnm : (F.name == "runtime.NumGoroutine") = false) (hS : Spec P f pin rin m1 q) (hA : ArgsQ l args pin) (hr : SubR res rin ns)
    (k : ∀ s nv, GL P os (Sta Γ ((d, retE (q s nv).ret) :: l) (aft ns mp (q s nv).res res)) rest N (kk s)) :
    GL P os (Sta Γ l res) (⟨some d, .call ⟨.value (.func f), args.toArray, ats⟩, ty, pos, after, g⟩ :: rest) N (m1 >>= kk) := fun a w ha r hm => by
  cases hm1 : m1 with
  | none => rw [hm1] at hm; cases hm
  | some s =>
    rw [hm1] at hm
    refine wpList_step fun K hK => ?_
    rw [if_pos (hg.wanted ha)]
    have hrun : (execOp a.eval ⟨some d, .call ⟨.value (.func f), args.toArray, ats⟩, ty, pos, after, g⟩).run P w = .ok (.enter f (args.map a.eval).toArray) w := by
      have e0 : a.eval (.func f) = .func (.func f) #[] #[] := rfl
      simp [execOp, resolve, e0, Deferred.ofValue, invoke, run_callF hF hB hnm]
    unfold Oper.wp; rw [hrun]
    simp only [Oper.upon]
    have hH : ∀ b, (fun b => Γ.H b ∨ ∃ r v c, lr res r = some (v, c) ∧ ns.contains r = false ∧ rblk v = some b) b ↔ Γ.H b ∨ ∃ r v c, lr res r = some (v, c) ∧ ns.contains r = false ∧ rblk v = some b := fun _ => Iff.rfl
    obtain ⟨h1, h2⟩ := ResOk.of ha hr hH
    refine (hS s hm1 _ _ w (ArgsQ.get ha h2 hA) h1).mono fun e w' hR => ?_
    obtain ⟨nv, vs, rfl, hp⟩ := hR
    obtain ⟨⟨h3, _⟩, h4, _⟩ := ha.called (mp := mp) hr hH hp
    exact hK _ _ (k s nv _ _ (h3.put hn h4) r hm)
def CapQ (res : Res) : List Value → List Ent → Prop
  | [], [] => True
  | u :: us, e :: es => (e = .val u ∧ ∃ r v T ds, u = ptrTo v 0 ∧ lr res r = some (v, .box T ds)) ∧ CapQ res us es
  | _, _ => False
theorem cN : CapQ res [] [] := trivial
theorem cQ {v : Value} {T : TypeId} {ds : List Ent} {us : List Value} {es : List Ent} (r : Nat) (h : lr res r = some (v, .box T ds)) (k : CapQ res us es) : CapQ res (ptrTo v 0 :: us) (.val (ptrTo v 0) :: es) := ⟨⟨rfl, r, v, T, ds, rfl, h⟩, k⟩
theorem CapQ.get {a : Act} {w : World} (ha : Sta Γ l res a w) {S : Blk} : ∀ {us : List Value} {es : List Ent}, CapQ res us es → holdsL S w es us
  | [], [], _ => trivial
  | u :: us, e :: es, h => by
    obtain ⟨⟨rfl, r, v, T, ds, rfl, h1⟩, h2⟩ := h
    refine ⟨⟨rfl, ?_⟩, CapQ.get ha h2⟩
    rw [base_ptr (ha.conts r v _ h1)]
    rcases ha.conts r v _ h1 with h3 | ⟨b, o, _, _, b', vs, rfl, _⟩
    · exact h3.elim
    · rfl
  | [], _ :: _, h => h.elim
  | _ :: _, [], h => h.elim
theorem callv {σ : Type} {x : Operand} {f : FuncId} {F : Func} {b : Code} {cap : List Value} {args : List Operand} {ats : Array TypeId} {pa pc : List Ent} {rin : Res} {m1 : Option σ} {q : σ → (Nat → Value) → Post} {kk : σ → Option ρ} (ns : List Nat) (mp : List (Nat × Nat)) (hg : Grd os l ⟨some d, .call ⟨.value x, args.toArray, ats⟩, ty, pos, after, g⟩ true) (hn : Nat.blt d Γ.n = true)
    (hx : opE l x = some (.val (.func (.func f) #[] cap.toArray))) (hF : P.funcs[f]? = some F) (hB : F.body = some b) (hnm : (F.name == "runtime.NumGoroutine") = false) (hS : Spec P f (pa ++ pc) rin m1 q) (hA : ArgsQ l args pa) (hC : CapQ res cap pc) (hr : SubR res rin ns)
    (k : ∀ s nv, GL P os (Sta Γ ((d, retE (q s nv).ret) :: l) (aft ns mp (q s nv).res res)) rest N (kk s)) :
    GL P os (Sta Γ l res) (⟨some d, .call ⟨.value x, args.toArray, ats⟩, ty, pos, after, g⟩ :: rest) N (m1 >>= kk) := fun a w ha r hm => by
  cases hm1 : m1 with
  | none => rw [hm1] at hm; cases hm
  | some s =>
    rw [hm1] at hm
    refine wpList_step fun K hK => ?_
    rw [if_pos (hg.wanted ha)]
    have hrun : (execOp a.eval ⟨some d, .call ⟨.value x, args.toArray, ats⟩, ty, pos, after, g⟩).run P w = .ok (.enter f (args.map a.eval ++ cap).toArray) w := by
      simp [execOp, resolve, (ha.vl hx).1, Deferred.ofValue, invoke, run_callF hF hB hnm, ← Array.append_assoc]
    unfold Oper.wp; rw [hrun]
    simp only [Oper.upon]
    have hH : ∀ b, (fun b => Γ.H b ∨ ∃ r v c, lr res r = some (v, c) ∧ ns.contains r = false ∧ rblk v = some b) b ↔ Γ.H b ∨ ∃ r v c, lr res r = some (v, c) ∧ ns.contains r = false ∧ rblk v = some b := fun _ => Iff.rfl
    obtain ⟨h1, h2⟩ := ResOk.of ha hr hH
    refine (hS s hm1 _ _ w ((ArgsQ.get ha h2 hA).mk (CapQ.get ha hC)) h1).mono fun e w' hR => ?_
    obtain ⟨nv, vs, rfl, hp⟩ := hR
    obtain ⟨⟨h3, _⟩, h4, _⟩ := ha.called (mp := mp) hr hH hp
    exact hK _ _ (k s nv _ _ (h3.put hn h4) r hm)
def chk (p : Prop) [Decidable p] : Option Unit := if p then some () else none
theorem chk_some {p : Prop} [Decidable p] {u : Unit} (h : chk p = some u) : p := by
  unfold chk at h; split at h
  · assumption
  · cases h
theorem sN : SubS l [] := trivial
theorem sS {t : Nat} {e : Ent} {l' : Slots} (h : lk l t = some e) (k : SubS l l') : SubS l ((t, e) :: l') := ⟨h, k⟩
theorem Zs {l l' : Slots} {t1 t2 t3 t4 : Nat} {e1 e2 e3 e4 : Ent} (h1 : lk l t1 = some e1) (h2 : lk l t2 = some e2) (h3 : lk l t3 = some e3) (h4 : lk l t4 = some e4) (k : SubS l l') : SubS l ((t1, e1) :: (t2, e2) :: (t3, e3) :: (t4, e4) :: l') := sS h1 (sS h2 (sS h3 (sS h4 k)))
theorem rN : SubR res [] [] := trivial
theorem rR {r n : Nat} {y : Value × Cont} {res' : Res} {ns : List Nat} (h : lr res n = some y) (hn : ns.contains n = false) (k : SubR res res' ns) : SubR res ((r, some y) :: res') (n :: ns) := ⟨⟨y, rfl, h⟩, hn, k⟩
theorem Zi {res : Res} {r n : Nat} {y : Value × Cont} {res' : Res} {ns : List Nat} (h : lr res n = some y) (k : SubR res res' ns) (hn : ns.contains n = false := by rfl) : SubR res ((r, some y) :: res') (n :: ns) := rR h hn k
theorem aN : ArgsQ l [] [] := trivial
theorem aQ {o : Operand} {os : List Operand} {p : Ent} {ps : List Ent} (h : opE l o = some p) (k : ArgsQ l os ps) : ArgsQ l (o :: os) (p :: ps) := ⟨⟨p, h, fun _ _ _ h => h⟩, k⟩
theorem pN {R : Rep α} {j : Nat} : RdP l R j [] [] := trivial
theorem pP {R : Rep α} {i j : Nat} {o : Operand} {x : α} {ps : List (Nat × Operand)} {xs : List α} (hi : i = j) (h : opE l o = some (.rd R x)) (k : RdP l R (j + 1) ps xs) : RdP l R j ((i, o) :: ps) (x :: xs) := ⟨⟨hi, .inl h⟩, k⟩
theorem eN : ResE P l res [] [] := trivial
theorem eE {t : Tmp} {e : Ent} {rs : List ResultVar} {es : List Ent} (h : lk l t = some e) (k : ResE P l res rs es) : ResE P l res (.tmp t :: rs) (e :: es) := ⟨h, k⟩
theorem eC {t : Tmp} {T T' : TypeId} {v : Value} {R : Rep α} {x : α} {rs : List ResultVar} {es : List Ent} (r : Nat) (h : lk l t = some (.val (ptrTo v 0))) (hr : lr res r = some (v, .box T' [.rd R x])) (hT : TyIs P T R.agg R.sz) (k : ResE P l res rs es) : ResE P l res (.cell t T :: rs) (.rd R x :: es) :=
  ⟨⟨r, v, T', h, hr, .inl ⟨α, R, x, rfl, hT⟩⟩, k⟩
theorem flat_val {u : Value} : (Ent.val u).flat := fun _ _ _ _ _ h => h
theorem flat_num {k : IntKind} {f : α → Int} {x : α} : (Ent.rd (numR k f) x).flat := fun _ _ _ _ _ h => h
theorem flat_bool {x : Bool} : (Ent.rd boolR x).flat := fun _ _ _ _ _ h => h
end
end
section
open Go Go.RowKit Go.ChangeShapes Go.WideShapes Go.ChangeAt
abbrev AllB (w : World) : Blk := Shr (fun _ => False) [] w
section
variable {H : Type} {enc : TypeId × Value → H} {P : Program} {w : World} {base : Nat} {spare : Nat → Bool} {held : Bool}
def Opn {α : Type} (enc : TypeId × Value → H) (P : Program) (w : World) (base : Nat) (spare : Nat → Bool) (held : Bool) (T : TypeId) (R : Rep α) (wf : α → Prop) : Prop :=
  ∀ (fuel : Nat) (cs : List Value) (x : DataW H × List MemPlace), DataW.trod enc P w base spare held fuel T cs = some x → ∃ y, R.rel (AllB w) w cs y ∧ wf y
theorem Opn.num {α : Type} {k : IntKind} {f : α → Int} {wf : α → Prop} {T : TypeId} (hT : P.underlying T = some (.int k)) (hf : ∀ n, (Lit.int k n).wf = true → ∃ y, f y = n ∧ wf y) : Opn enc P w base spare held T (numR k f) wf := fun fuel cs x h => by
  obtain ⟨n, rfl, -, hw⟩ := DataW.trod_int hT h
  obtain ⟨y, rfl, h2⟩ := hf n hw
  exact ⟨y, rfl, h2⟩
def inI (x : Int) : Prop := -9223372036854775808 ≤ x ∧ x ≤ 9223372036854775807
def inJ (x : Int) : Prop := -2147483648 ≤ x ∧ x ≤ 2147483647
theorem Opn.i64 {T : TypeId} (hT : P.underlying T = some (.int .i64)) : Opn enc P w base spare held T i64R inI := Opn.num hT (fun n h => ⟨n, rfl, by
  simp [Lit.wf, IntKind.min, IntKind.max, IntKind.signed, IntKind.bits] at h; unfold inI; omega⟩)
theorem Opn.i32 {T : TypeId} (hT : P.underlying T = some (.int .i32)) : Opn enc P w base spare held T i32R inJ := Opn.num hT (fun n h => ⟨n, rfl, by
  simp [Lit.wf, IntKind.min, IntKind.max, IntKind.signed, IntKind.bits] at h; unfold inJ; omega⟩)
theorem Opn.u8 {T : TypeId} (hT : P.underlying T = some (.int .u8)) : Opn enc P w base spare held T u8R (fun _ => True) := Opn.num hT (fun n h => ⟨UInt8.ofNat n.toNat, by
  simp [Lit.wf, IntKind.min, IntKind.max, IntKind.signed, IntKind.bits] at h; simp; omega, trivial⟩)
theorem Opn.u32 {T : TypeId} (hT : P.underlying T = some (.int .u32)) : Opn enc P w base spare held T u32R (fun _ => True) := Opn.num hT (fun n h => ⟨UInt32.ofNat n.toNat, by
  simp [Lit.wf, IntKind.min, IntKind.max, IntKind.signed, IntKind.bits] at h; simp; omega, trivial⟩)
theorem Opn.u64 {T : TypeId} (hT : P.underlying T = some (.int .u64)) : Opn enc P w base spare held T u64R (fun _ => True) := Opn.num hT (fun n h => ⟨UInt64.ofNat n.toNat, by
  simp [Lit.wf, IntKind.min, IntKind.max, IntKind.signed, IntKind.bits] at h; simp; omega, trivial⟩)
theorem Opn.bool {T : TypeId} (hT : P.underlying T = some .bool) : Opn enc P w base spare held T boolR (fun _ => True) := fun fuel cs x h => by
  obtain ⟨b, rfl, -⟩ := DataW.trod_bool hT h
  exact ⟨b, rfl, trivial⟩
theorem Opn.str {T : TypeId} (hT : P.underlying T = some .string) : Opn enc P w base spare held T strR (fun s => s.length ≤ 9223372036854775807) := fun fuel cs x h => by
  obtain ⟨s, rfl, -, hs⟩ := DataW.trod_string hT h
  exact ⟨s.data.toList, ⟨s, rfl, rfl⟩, by have : s.data.toList.length = s.size := by simp
                                          show s.data.toList.length ≤ _; rw [this]; exact hs⟩
theorem relL_range {α : Type} {R : Rep α} {S : Blk} {K : Nat → List Value} {F : Nat → α} : ∀ (l : List Nat), (∀ i ∈ l, R.rel S w (K i) (F i)) → relL R S w (l.flatMap K) (l.map F)
  | [], _ => rfl
  | i :: l, h => ⟨K i, _, by simp, h i (by simp), relL_range l (fun j hj => h j (by simp [hj]))⟩
theorem flatMap_get {K : Nat → List Value} {sz : Nat} (h0 : 0 < sz) : ∀ (n : Nat) (j : Nat), (∀ i, i < n → (K i).length = sz) → j < n * sz → ((List.range n).flatMap K)[j]? = (K (j / sz))[j % sz]?
  | 0, j, _, hj => by simp at hj
  | n + 1, j, hK, hj => by
    have hl : ((List.range n).flatMap K).length = n * sz := by
      have : ∀ m, m ≤ n → ((List.range m).flatMap K).length = m * sz := by
        intro m hm
        induction m with
        | zero => simp
        | succ m ih => rw [List.range_succ, List.flatMap_append, List.length_append, ih (by omega)]; simp [hK m (by omega), Nat.add_mul]
      exact this n (Nat.le_refl _)
    rw [List.range_succ, List.flatMap_append, List.getElem?_append, hl]
    split
    · exact flatMap_get h0 n j (fun i hi => hK i (by omega)) ‹_›
    · rename_i hge
      have e : (n + 1) * sz = n * sz + sz := by rw [Nat.add_mul]; omega
      have h1 : j / sz = n := by
        have : j / sz < n + 1 := by rw [Nat.div_lt_iff_lt_mul h0]; omega
        have : n ≤ j / sz := by rw [Nat.le_div_iff_mul_le h0]; omega
        omega
      have h2 : j % sz = j - n * sz := by
        have := Nat.div_add_mod j sz; rw [h1, Nat.mul_comm] at this; omega
      rw [h1, h2]; simp
theorem Opn.slice {α : Type} [Inhabited α] {R : Rep α} {wf : α → Prop} {T e : TypeId} (hT : P.underlying T = some (.slice e)) (hc : P.cellsOf e = R.sz) (h0 : Nat.blt 0 R.sz = true) (k : Opn enc P w base spare held e R wf) :
    Opn enc P w base spare held T (sliceR R) (fun l => (∀ x ∈ l, wf x) ∧ l.length ≤ 9223372036854775807) := fun fuel cs x h => by
  have h0 : 0 < R.sz := Eq.mp Nat.blt_eq h0
  rcases Go.Deep.open_slice hT h with ⟨rfl, -⟩ | ⟨a, len, cap, m, n, D, Pl, rfl, hb, hl, hm, hm2, -, hall⟩
  · exact ⟨[], ⟨none, 0, [], rfl, Rd.nil _ _, rfl, by simp⟩, by simp⟩
  · have hlm : len ≤ m := by rw [hm2]; split <;> omega
    rw [hc] at hall
    obtain ⟨F, hF⟩ := Go.Deep.choose_lt (α := List Value × α) (n := len) (p := fun i y => w.cells? base (a.add (i * R.sz)) R.sz = some y.1 ∧ R.rel (AllB w) w y.1 y.2 ∧ wf y.2) (fun i hi => by
      obtain ⟨cs', h1, h2⟩ := hall i (by omega)
      obtain ⟨y, h3, h4⟩ := k n cs' _ h2
      exact ⟨(cs', y), h1, h3, h4⟩)
    have hK : ∀ i, i < len → (F i).1.length = R.sz := fun i hi => R.len (hF i hi).2.1
    have hcell : ∀ i, i < len → ∀ q, q < R.sz → w.cell? ((a.add (i * R.sz)).add q) = ((F i).1)[q]? := fun i hi q hq => (World.cells?_some (hF i hi).1).2.2 q hq
    have hln : ((List.range len).map fun i => (F i).2).length = len := by simp
    obtain ⟨bk, o, sp⟩ := a
    have hspot : 0 < len → sp = none := fun hp => by
      have h1 := hcell 0 hp 0 h0
      have h2 : ((F 0).1)[0]? = some ((F 0).1[0]'(by rw [hK 0 hp]; exact h0)) := List.getElem?_eq_getElem _
      rw [h2] at h1
      simpa [Addr.add] using World.cell?_spot h1
    have hrel := relL_range (R := R) (S := AllB w) (w := w) (K := fun i => (F i).1) (F := fun i => (F i).2) (List.range len) (fun i hi => (hF i (by simpa using hi)).2.1)
    have hget : ∀ j u, ((List.range len).flatMap fun i => (F i).1)[j]? = some u → w.cell? ⟨bk, o + j, none⟩ = some u := fun j u hu => by
      have hlen := hrel.len
      rw [hln] at hlen
      have hj : j < len * R.sz := by have := (List.getElem?_eq_some_iff.1 hu).1; rw [hlen] at this; exact this
      rw [flatMap_get h0 len j hK hj] at hu
      have hi : j / R.sz < len := by rw [Nat.div_lt_iff_lt_mul h0]; exact hj
      have h2 := hcell (j / R.sz) hi (j % R.sz) (Nat.mod_lt _ h0)
      have hsp := hspot (Nat.lt_of_le_of_lt (Nat.zero_le _) hi)
      subst hsp
      rw [add_none, add_none] at h2
      have e1 : o + j / R.sz * R.sz + j % R.sz = o + j := by
        have := Nat.div_add_mod j R.sz; rw [Nat.mul_comm] at this; omega
      rw [e1] at h2
      rw [h2]; exact hu
    refine ⟨(List.range len).map fun i => (F i).2, ⟨some ⟨bk, o, sp⟩, cap, _, by rw [hln], ⟨by rw [hrel.len], ?_⟩, hrel, ?_⟩, ?_, by rw [hln]; have : maxLen = 9223372036854775807 := rfl; omega⟩
    · rw [hln]
      refine .inr ⟨bk, o, sp, cap, rfl, hl, hm, ?_, hget⟩
      by_cases h1 : len = 0
      · left; subst h1; rfl
      · right; exact hspot (by omega)
    · intro hne b hbb
      simp [sblk] at hbb
      subst hbb
      refine ⟨?_, fun r v c h => by simp [lr, lk] at h, fun h => h⟩
      cases hL : ((List.range len).flatMap fun i => (F i).1) with
      | nil => exact absurd hL hne
      | cons u us => exact World.block_lt_of_cell? w _ (hget 0 u (by rw [hL]; rfl))
    · intro x hx
      simp only [List.mem_map, List.mem_range] at hx
      obtain ⟨i, hi, rfl⟩ := hx
      exact (hF i hi).2.2
theorem chunks {α : Type} {R : Rep α} {S : Blk} (F : Nat → α) : ∀ (n : Nat) (cs : List Value), cs.length = n * R.sz → (∀ i, i < n → R.rel S w ((cs.drop (i * R.sz)).take R.sz) (F i)) → relL R S w cs ((List.range n).map F)
  | 0, cs, h, _ => by simp at h; subst h; rfl
  | n + 1, cs, h, k => by
    have e : (n + 1) * R.sz = n * R.sz + R.sz := by rw [Nat.add_mul]; omega
    rw [List.range_succ, List.map_append]
    have h1 := chunks (R := R) (S := S) F n (cs.take (n * R.sz)) (by simp; omega) (fun i hi => by
      have e2 : (i + 1) * R.sz ≤ n * R.sz := Nat.mul_le_mul_right _ (by omega)
      have e3 : (i + 1) * R.sz = i * R.sz + R.sz := by rw [Nat.add_mul]; omega
      have := k i (by omega)
      rw [List.drop_take, List.take_take, Nat.min_eq_left (by omega)]; exact this)
    have h2 := k n (by omega)
    have h3 : (cs.drop (n * R.sz)).take R.sz = cs.drop (n * R.sz) := List.take_of_length_le (by simp; omega)
    rw [h3] at h2
    have := h1.append (relL.single h2)
    rwa [List.take_append_drop] at this
theorem Opn.arr {α : Type} [Inhabited α] {R : Rep α} {wf : α → Prop} {T e : TypeId} {n : Nat} (hT : P.underlying T = some (.array n e)) (hc : P.cellsOf e = R.sz) (hl : P.cellsOf T = n * R.sz) (k : Opn enc P w base spare held e R wf) :
    Opn enc P w base spare held T (arrR n R) (fun v => ∀ x ∈ v.toList, wf x) := fun fuel cs x h => by
  obtain ⟨xs, m, -, -, hlen, hxl, hi⟩ := DataW.trod_array hT h
  rw [hc] at hi
  obtain ⟨F, hF⟩ := Go.Deep.choose_lt (α := α) (n := n) (p := fun i y => R.rel (AllB w) w ((cs.drop (i * R.sz)).take R.sz) y ∧ wf y) (fun i hi' => by
    have h3 := hi i hi'
    rw [List.getElem?_eq_getElem (by omega)] at h3
    exact k m _ _ h3)
  have hrel := chunks (R := R) (S := AllB w) (w := w) F n cs (by rw [hlen, hl]) (fun i hi' => (hF i hi').1)
  have hv : (Vector.mk ((List.range n).map F).toArray (by simp) : Vector α n).toList = (List.range n).map F := by simp [Vector.toList]
  refine ⟨Vector.mk ((List.range n).map F).toArray (by simp), ?_, ?_⟩
  · show relL R (AllB w) w cs _
    rw [hv]; exact hrel
  · intro x hx
    rw [hv] at hx
    simp only [List.mem_map, List.mem_range] at hx
    obtain ⟨i, hi', rfl⟩ := hx
    exact (hF i hi').2
def OpnF {γ : Type} (enc : TypeId × Value → H) (P : Program) (w : World) (base : Nat) (spare : Nat → Bool) (held : Bool) (fs : List Field) (o : Nat) (R : Rep γ) (wf : γ → Prop) : Prop :=
  ∀ (n : Nat) (cs : List Value), (∀ f ∈ fs, ∃ y, DataW.trod enc P w base spare held n f.type ((cs.drop f.offset).take (P.cellsOf f.type)) = some y) → cs.length = o + R.sz → ∃ y, R.rel (AllB w) w (cs.drop o) y ∧ wf y
theorem OpnF.nil {o : Nat} : OpnF enc P w base spare held [] o unitR (fun _ => True) := fun n cs _ hl => by
  refine ⟨(), ?_, trivial⟩
  show cs.drop o = []
  exact List.drop_eq_nil_of_le (by rw [hl]; exact Nat.le_refl _)
theorem OpnF.cons {α β : Type} {R : Rep α} {R2 : Rep β} {wf : α → Prop} {wf2 : β → Prop} {f : Field} {fs : List Field} {o : Nat} (h1 : Opn enc P w base spare held f.type R wf) (ho : f.offset = o) (hc : P.cellsOf f.type = R.sz) (h2 : OpnF enc P w base spare held fs (o + R.sz) R2 wf2) :
    OpnF enc P w base spare held (f :: fs) o (prodR R R2) (fun p => wf p.1 ∧ wf2 p.2) := fun n cs h hl => by
  obtain ⟨x, hx⟩ := h f (by simp)
  rw [ho, hc] at hx
  obtain ⟨y, k1, k2⟩ := h1 _ _ _ hx
  obtain ⟨z, k3, k4⟩ := h2 n cs (fun f hf => h f (by simp [hf])) (by rw [hl]; show o + (R.sz + R2.sz) = _; omega)
  refine ⟨(y, z), ⟨_, _, ?_, k1, k3⟩, k2, k4⟩
  rw [← List.drop_drop, List.take_append_drop]
theorem Opn.struct {β γ : Type} {R : Rep γ} {g : β → γ} {wf : γ → Prop} {wf' : β → Prop} {T : TypeId} {fs : Array Field} (hT : P.underlying T = some (.struct fs)) (hl : P.cellsOf T = R.sz) (k : OpnF enc P w base spare held fs.toList 0 R wf) (of : γ → β) (hg : ∀ y, g (of y) = y) (hw : ∀ y, wf y → wf' (of y)) :
    Opn enc P w base spare held T (viaR g R) wf' := fun fuel cs x h => by
  obtain ⟨xs, n, -, -, hlen, hxl, hi⟩ := DataW.trod_struct hT h
  obtain ⟨y, h1, h2⟩ := k n cs (fun f hf => by
    obtain ⟨i, hi', rfl⟩ := List.mem_iff_getElem.1 hf
    have hi'' : i < fs.size := by simpa using hi'
    have := hi i (fs[i]) (by simp [hi''])
    rw [List.getElem?_eq_getElem (by omega)] at this
    exact ⟨_, by simpa using this⟩) (by rw [hlen, hl]; omega)
  refine ⟨of y, ?_, hw y h2⟩
  show R.rel (AllB w) w cs (g (of y))
  rw [hg]; simpa using h1
theorem Opn.arg {α : Type} {R : Rep α} {wf : α → Prop} {T : TypeId} {v : Value} {d : DataW H} {ps : List MemPlace} (k : Opn enc P w base spare held T R wf) (h : DataW.Trod enc P w base spare held T v d ps) (hv : R.agg = false ∧ v.oneCell' = true ∨ R.agg = true ∧ ∃ cs, v = .agg cs) :
    ∃ y, (Ent.rd R y).holds (AllB w) w v ∧ wf y := by
  obtain ⟨fuel, hf⟩ := h
  obtain ⟨y, h1, h2⟩ := k fuel _ _ hf
  refine ⟨y, ⟨_, h1, ?_⟩, h2⟩
  rcases hv with ⟨ha, h3⟩ | ⟨ha, cs, rfl⟩
  · rw [oneCell_cells h3]; simp [Rep.val, ha]
  · simp [Rep.val, ha, Value.cells]
theorem ok4 {P : Program} {w : World} {r : Reach} {b : Nat} {T e : TypeId} {v : Value} (hT : P.underlying T = some (.slice e)) (h : Value.okWide P w r b T v) : v.oneCell' = true := by
  obtain ⟨a, l, c, rfl⟩ := okWide_slice hT h; rfl
theorem ok5 {P : Program} {w : World} {r : Reach} {b : Nat} {T : TypeId} {v : Value} {fs : Array Field} (hT : P.underlying T = some (.struct fs)) (h : Value.okWide P w r b T v) : ∃ cs, v = .agg cs := by
  obtain ⟨cs, h, _⟩ := okWide_struct hT h; exact ⟨cs, h⟩
end
end
section
open Go Go.RowKit
theorem relL_u8 {S : Blk} {w : World} : ∀ {b : List UInt8} {xs : List Value}, relL u8R S w xs b → xs = b.map fun c => .int .u8 (c.toNat : Int)
  | [], xs, h => by simp only [relL] at h; simp [h]
  | c :: b, xs, h => by
    obtain ⟨u, d, rfl, h1, h2⟩ := h
    have h1 : u = [.int .u8 (c.toNat : Int)] := h1
    rw [relL_u8 h2, h1]; rfl
theorem max_u8 (a b : UInt8) : (if (a.toNat : Int) < (b.toNat : Int) then (b.toNat : Int) else (a.toNat : Int)) = ((max a b).toNat : Int) := by
  rw [show max a b = if a ≤ b then b else a from rfl]
  by_cases h : a ≤ b
  · have := UInt8.le_iff_toNat_le.1 h
    rw [if_pos h]; split <;> omega
  · have : ¬ a.toNat ≤ b.toNat := fun k => h (UInt8.le_iff_toNat_le.2 k)
    rw [if_neg h]; split <;> omega
theorem min_u8 (a b : UInt8) : (if (b.toNat : Int) < (a.toNat : Int) then (b.toNat : Int) else (a.toNat : Int)) = ((min a b).toNat : Int) := by
  rw [show min a b = if a ≤ b then a else b from rfl]
  by_cases h : a ≤ b
  · have := UInt8.le_iff_toNat_le.1 h
    rw [if_pos h]; split <;> omega
  · have : ¬ a.toNat ≤ b.toNat := fun k => h (UInt8.le_iff_toNat_le.2 k)
    rw [if_neg h]; split <;> omega
theorem max_u32 (a b : UInt32) : (if (a.toNat : Int) < (b.toNat : Int) then (b.toNat : Int) else (a.toNat : Int)) = ((max a b).toNat : Int) := by
  rw [show max a b = if a ≤ b then b else a from rfl]
  by_cases h : a ≤ b
  · have := UInt32.le_iff_toNat_le.1 h
    rw [if_pos h]; split <;> omega
  · have : ¬ a.toNat ≤ b.toNat := fun k => h (UInt32.le_iff_toNat_le.2 k)
    rw [if_neg h]; split <;> omega
theorem min_u32 (a b : UInt32) : (if (b.toNat : Int) < (a.toNat : Int) then (b.toNat : Int) else (a.toNat : Int)) = ((min a b).toNat : Int) := by
  rw [show min a b = if a ≤ b then a else b from rfl]
  by_cases h : a ≤ b
  · have := UInt32.le_iff_toNat_le.1 h
    rw [if_pos h]; split <;> omega
  · have : ¬ a.toNat ≤ b.toNat := fun k => h (UInt32.le_iff_toNat_le.2 k)
    rw [if_neg h]; split <;> omega
theorem max_u64 (a b : UInt64) : (if (a.toNat : Int) < (b.toNat : Int) then (b.toNat : Int) else (a.toNat : Int)) = ((max a b).toNat : Int) := by
  rw [show max a b = if a ≤ b then b else a from rfl]
  by_cases h : a ≤ b
  · have := UInt64.le_iff_toNat_le.1 h
    rw [if_pos h]; split <;> omega
  · have : ¬ a.toNat ≤ b.toNat := fun k => h (UInt64.le_iff_toNat_le.2 k)
    rw [if_neg h]; split <;> omega
theorem min_u64 (a b : UInt64) : (if (b.toNat : Int) < (a.toNat : Int) then (b.toNat : Int) else (a.toNat : Int)) = ((min a b).toNat : Int) := by
  rw [show min a b = if a ≤ b then a else b from rfl]
  by_cases h : a ≤ b
  · have := UInt64.le_iff_toNat_le.1 h
    rw [if_pos h]; split <;> omega
  · have : ¬ a.toNat ≤ b.toNat := fun k => h (UInt64.le_iff_toNat_le.2 k)
    rw [if_neg h]; split <;> omega
section
variable {α : Type} {C : World → World → Prop} {P : Program} {Γ : Ctx} {l : Slots} {res : Res} {d : Tmp} {ty : TypeId} {pos : String} {after : Array Edge} {g : Option (Nat × Bool)}
theorem B.max {x y : Operand} {at_ : Array TypeId} {a b : UInt8} (hx : opE l x = some (.rd u8R a)) (hy : opE l y = some (.rd u8R b)) : Run C P Γ l res ⟨some d, .call ⟨.builtin .max, #[x, y], at_⟩, ty, pos, after, g⟩ (.rd u8R (Max.max a b)) := maxi hx hy (max_u8 a b)
theorem B.min {x y : Operand} {at_ : Array TypeId} {a b : UInt8} (hx : opE l x = some (.rd u8R a)) (hy : opE l y = some (.rd u8R b)) : Run C P Γ l res ⟨some d, .call ⟨.builtin .min, #[x, y], at_⟩, ty, pos, after, g⟩ (.rd u8R (Min.min a b)) := mini hx hy (min_u8 a b)
theorem W.max {x y : Operand} {at_ : Array TypeId} {a b : UInt32} (hx : opE l x = some (.rd u32R a)) (hy : opE l y = some (.rd u32R b)) : Run C P Γ l res ⟨some d, .call ⟨.builtin .max, #[x, y], at_⟩, ty, pos, after, g⟩ (.rd u32R (Max.max a b)) := maxi hx hy (max_u32 a b)
theorem W.min {x y : Operand} {at_ : Array TypeId} {a b : UInt32} (hx : opE l x = some (.rd u32R a)) (hy : opE l y = some (.rd u32R b)) : Run C P Γ l res ⟨some d, .call ⟨.builtin .min, #[x, y], at_⟩, ty, pos, after, g⟩ (.rd u32R (Min.min a b)) := mini hx hy (min_u32 a b)
theorem U.max {x y : Operand} {at_ : Array TypeId} {a b : UInt64} (hx : opE l x = some (.rd u64R a)) (hy : opE l y = some (.rd u64R b)) : Run C P Γ l res ⟨some d, .call ⟨.builtin .max, #[x, y], at_⟩, ty, pos, after, g⟩ (.rd u64R (Max.max a b)) := maxi hx hy (max_u64 a b)
theorem U.min {x y : Operand} {at_ : Array TypeId} {a b : UInt64} (hx : opE l x = some (.rd u64R a)) (hy : opE l y = some (.rd u64R b)) : Run C P Γ l res ⟨some d, .call ⟨.builtin .min, #[x, y], at_⟩, ty, pos, after, g⟩ (.rd u64R (Min.min a b)) := mini hx hy (min_u64 a b)
theorem cutV {R : Rep α} {n : Nat} {v : Vector α n} {x : Operand} {T e : TypeId} {z : Value} {by_ : Nat} (hx : opE l x = some (.rp (arrR n R) v)) (hT : P.underlying T = some (.array n e)) (hE : TI P e z R.sz by_) (hn : Nat.blt 0 n = true) (hm : Nat.ble n 281474976710656 = true) (h0 : Nat.blt 0 R.sz = true) :
    Run C P Γ l res ⟨some d, .slice T x none none none, ty, pos, after, g⟩ (.rd (sliceR R) v.toList) := fun a w ha => by
  have hn : 0 < n := Eq.mp Nat.blt_eq hn
  have hm : n ≤ 281474976710656 := Nat.le_of_ble_eq_true hm
  obtain ⟨b, o, cs, h1, h2, h3, h4⟩ := ha.vl hx
  have hlen : v.toList.length = n := by simp
  refine ⟨.slice (some ⟨b, o, none⟩) v.toList.length n, fun w' _ => ?_, _, ⟨some ⟨b, o, none⟩, n, cs, rfl, ⟨by rw [hlen]; exact (relL.len (show relL R _ w cs v.toList from h3)).trans (by rw [hlen]), .inr ⟨b, o, none, n, rfl, by omega, by unfold maxLen; omega, .inr rfl, h4⟩⟩, h3, fun _ bb hbb => by cases hbb; exact h2⟩, rfl⟩
  rw [hlen]
  have hne : ¬ n = 0 := by omega
  simp [execOp, h1, Instr.sliceAt, run_underlying hT, Instr.sliceBounds, Instr.sureAddr, run_sizeOf hE, Sem.run_pure, Addr.add]
end
def runeAt (b : List UInt8) (q : Nat) : Nat × Nat := Utf8.decode ⟨b.toArray⟩ q
def Cont.iter (b : List UInt8) (q : Nat) : Cont where
  nil _ _ _ := False
  nilm _ h := h
  nilb h := h.elim
  rel S w v o := ∃ g s, v = .pointer (some ⟨g, 0, none⟩) ∧ o = .stringIter s q ∧ s.data.toList = b
  mono k h := h
section
variable {ρ : Type} {P : Program} {Γ : Ctx} {l : Slots} {res : Res} {m1 m2 : Option ρ} {os rest : List Oper} {N : ρ → Exit → Act → World → Prop} {d : Tmp} {ty : TypeId} {pos : String} {after : Array Edge} {g : Option (Nat × Bool)}
theorem rng (r : Nat) {T : TypeId} {x : Operand} {b : List UInt8} (hx : opE l x = some (.rd strR b)) (hT : P.underlying T = some .string) : Eff P Γ l res ⟨some d, .range T x, ty, pos, after, g⟩ r (fun v => (v, .iter b 0)) := fun a w ha => by
  obtain ⟨s, h1, rfl⟩ := rd_str (ha.vl hx)
  have hrun : (execOp a.eval ⟨some d, .range T x, ty, pos, after, g⟩).run P w = .ok (.value (.pointer (some ⟨w.heap.size, 0, none⟩))) (w.alloc (.stringIter s 0)) := by
    simp [execOp, h1, run_range_string w T s hT, World.iter]
  exact ⟨_, _, hrun, ha.upd r (c := .iter s.data.toList 0) (new_gr w (.stringIter s 0)) (by simp) (fun b hb => .inr (by simp [rblk] at hb; omega)) (v := .pointer (some ⟨w.heap.size, 0, none⟩))
    (fun S' k' => .inr ⟨w.heap.size, _, rfl, by show (w.heap.push (Obj.stringIter s 0))[w.heap.size]? = _; simp, _, s, rfl, rfl, rfl⟩), rfl, none, new_gr w _, by simp⟩
theorem lNext {x : Operand} {v : Value} {b : List UInt8} {q : Nat} (r : Nat) (hn : Nat.blt d Γ.n = true) (hx : opE l x = some (.val v)) (hr : lr res r = some (v, .iter b q))
    (ht : q < b.length → GL P os (Sta Γ ((d, .tup [.rd boolR true, .rd i64R (q : Int), .rd i32R ((runeAt b q).1 : Int)]) :: l) ((r, some (v, .iter b (q + (runeAt b q).2))) :: res)) rest N m1)
    (hf : ¬ q < b.length → GL P os (Sta Γ ((d, .tup [.rd boolR false]) :: l) res) rest N m2) :
    GL P os (Sta Γ l res) (⟨some d, .next x true, ty, pos, after, none⟩ :: rest) N (if q < b.length then m1 else m2) := fun a w ha ρ hm => by
  have h1 := (ha.vl hx).1
  rcases ha.conts r v _ hr with h2 | ⟨b', o, h2, h3, g', s, rfl, rfl, hs⟩
  · exact h2.elim
  · simp only [rblk, Option.some.injEq] at h2
    subst h2
    have hs2 : s = ⟨b.toArray⟩ := by
      cases s with | mk data => simp only at hs; rw [← hs]
    have hsz : s.size = b.length := by rw [hs2]; rfl
    by_cases hq : q < b.length
    · rw [if_pos hq] at hm
      have hrun : (execOp a.eval ⟨some d, .next x true, ty, pos, after, none⟩).run P w = .ok (.value (.tuple #[.bool true, .int .i64 (q : Int), .int .i32 ((runeAt b q).1 : Int)])) { w with heap := w.heap.setIfInBounds g' (.stringIter s (q + (runeAt b q).2)) } := by
        simp [execOp, h1, Instr.next, getObj, setObj, Sem.run, h3, hsz, hq, goInt, ← hs2, runeAt]
      have hlt : g' < w.heap.size := (Array.getElem?_eq_some_iff.1 h3).1
      have hgr : w.grownBy { w with heap := w.heap.setIfInBounds g' (.stringIter s (q + (runeAt b q).2)) } (some g') := by
        refine ⟨rfl, rfl, rfl, by simp, fun k hk hne => ?_⟩
        have hne : k ≠ g' := fun e => hne (by rw [e])
        simp only [Array.getElem?_setIfInBounds]
        rw [if_neg (fun e => hne e.symm)]
      obtain ⟨h4, h5⟩ := ha.upd r (v := .pointer (some ⟨g', 0, none⟩)) (c := .iter b (q + (runeAt b q).2)) hgr (fun b hb => ⟨_, _, hr, by cases hb; rfl⟩) (fun b hb => .inl ⟨_, _, hr, hb⟩)
        (fun S' k' => .inr ⟨g', .stringIter s (q + (runeAt b q).2), rfl, by simp [hlt], g', s, rfl, rfl, hs⟩)
      refine st (g_none rfl) hrun (ht hq _ _ (h4.put hn ⟨[_, _, _], ⟨⟨_, rfl, rfl⟩, rd_num', rd_num', trivial⟩, rfl⟩) ρ hm)
    · rw [if_neg hq] at hm
      have hrun : (execOp a.eval ⟨some d, .next x true, ty, pos, after, none⟩).run P w = .ok (.value (.tuple #[.bool false])) w := by
        simp [execOp, h1, Instr.next, getObj, Sem.run, h3, hsz, hq]
      refine st (g_none rfl) hrun (hf hq _ _ (ha.put hn ⟨[_], ⟨⟨_, rfl, rfl⟩, trivial⟩, rfl⟩) ρ hm)
end
end
section
open Go Go.RowKit
section
variable {ρ : Type} {P : Program} {Γ : Ctx} {l l0 : Slots} {res res0 : Res} {ws : List Nat} {m m1 m2 : Option ρ} {os : List Oper} {N : ρ → Exit → Act → World → Prop}
  {d : Tmp} {op : Op} {ty : TypeId} {pos : String} {after : Array Edge} {g : Option (Nat × Bool)} {fuel i : Nat} {listed listed' : Array Bool} {rest : List Oper}
def GO (P : Program) (os : List Oper) (Γ : Ctx) (l0 : Slots) (res0 : Res) (ws : List Nat) (l : Slots) (res : Res) (N : ρ → Exit → Act → World → Prop) (fuel : Nat) (listed : Array Bool) (i : Nat) (m : Option ρ) : Prop :=
  ∀ a w0 w, SH Γ l0 res0 ws l res a w0 w → ∀ r, m = some r → wpOp P os.toArray (N r) i (fun a' w' => CW res0 ws w0 w' ∧ wpAnyH P .any os.toArray (N r) (CW res0 ws w0) fuel (listed.setIfInBounds i true) a' w') a w
def AllP {α : Type} (p : α → Prop) : List α → Prop
  | [] => True
  | x :: l => p x ∧ AllP p l
theorem AllP.mem {α : Type} {p : α → Prop} : ∀ {l : List α}, AllP p l → ∀ x ∈ l, p x
  | [], _, x, h => by simp at h
  | y :: l, h, x, hx => by
    rcases List.mem_cons.1 hx with rfl | hx
    · exact h.1
    · exact AllP.mem h.2 x hx
theorem hAlt (is : List Nat) (hr : Region.ready .any os.toArray listed = is) (hne : is.isEmpty = false) (h : AllP (fun i => GO P os Γ l0 res0 ws l res N fuel listed i m) is) : GH P os Γ l0 res0 ws l res N (fuel + 1) listed m := fun a w0 w ha r hm =>
  wpAnyH_all hr (by intro e; rw [e] at hne; cases hne) (fun i hi => h.mem i hi a w0 w ha r hm)
theorem oDo {r : Nat} {x : Value → Value × Cont} (i : Nat) (hi : os.toArray[i]? = some ⟨some d, op, ty, pos, after, g⟩) (hg : Grd os l ⟨some d, op, ty, pos, after, g⟩ true) (hn : Nat.blt d Γ.n = true) (hl : listed.setIfInBounds i true = listed') (hw : ws.contains r = true)
    (he : Eff P Γ l res ⟨some d, op, ty, pos, after, g⟩ r x) (hx : ∀ u, (x u).1 = u) (k : ∀ u, GH P os Γ ((d, .val u) :: l0) res0 ws ((d, .val u) :: l) ((r, some (x u)) :: res) N fuel listed' m) : GO P os Γ l0 res0 ws l res N fuel listed i m := fun a w0 w ha ρ' hm => by
  obtain ⟨w', u, h1, h2, h3, h4⟩ := he a w ha.s
  have hgw := hg.wanted ha.s
  unfold wpOp
  simp only [hi, hgw, if_true]
  refine .inl ?_
  unfold Oper.wp; rw [h1]
  have hown : ∀ b, rblk (x u).1 = some b → (∃ v0 c0, lr res r = some (v0, c0) ∧ rblk v0 = some b) ∨ w.heap.size ≤ b := fun b hb => by
    by_cases h5 : w.heap.size ≤ b
    · exact .inr h5
    · refine .inl (Classical.byContradiction fun hno => ?_)
      have hc := h2.1.conts r _ _ (lr_cons.trans (if_pos rfl))
      by_cases hS : Shr Γ.H res w b
      · exact (h2.2 b hS).1.2.1 r _ _ (lr_cons.trans (if_pos rfl)) hb
      · have hK : ¬ Γ.K b := h2.1.own r _ _ (lr_cons.trans (if_pos rfl)) b hb
        refine hS ⟨by omega, fun r' v' c' hr' e => ?_, fun hh => hK (ha.s.hid b hh)⟩
        by_cases hrr : r = r'
        · subst hrr; exact hno ⟨v', c', hr', e⟩
        · exact h2.1.excl r _ _ r' v' c' (lr_cons.trans (if_pos rfl)) ((lr_cons.trans (if_neg hrr)).trans hr') hrr b hb e
  have hS := ha.grew hw h2 h4 hown
  refine ⟨hS.cw, ?_⟩
  rw [hl]
  exact k u _ w0 w' (hS.put hn ⟨rfl, h3⟩ ⟨rfl, h3⟩) ρ' hm
theorem oCall {σ : Type} {f : FuncId} {F : Func} {b : Code} {args : List Operand} {ats : Array TypeId} {pin : List Ent} {rin : Res} {m1 : Option σ} {q : σ → (Nat → Value) → Post} {kk : σ → Option ρ} (i : Nat) (ns : List Nat) (mp : List (Nat × Nat)) (e0 : σ → (Nat → Value) → Ent)
    (hi : os.toArray[i]? = some ⟨some d, .call ⟨.value (.func f), args.toArray, ats⟩, ty, pos, after, g⟩) (hl : listed.setIfInBounds i true = listed') (hg : Grd os l ⟨some d, .call ⟨.value (.func f), args.toArray, ats⟩, ty, pos, after, g⟩ true) (hn : Nat.blt d Γ.n = true)
    (hF : P.funcs[f]? = some F) (hB : F.body = some b) (hnm : (F.name == "runtime.NumGoroutine") = false) (hS : Spec P f pin rin m1 q) (hA : ArgsQ l args pin) (hr : SubR res rin ns) (hw : ns.all (fun n => ws.contains n) = true)
    (he0 : ∀ s nv v S w S' w', (retE (q s nv).ret).holds S w v → (e0 s nv).holds S' w' v)
    (k : ∀ s nv, GH P os Γ ((d, e0 s nv) :: l0) res0 ws ((d, retE (q s nv).ret) :: l) (aft ns mp (q s nv).res res) N fuel listed' (kk s)) :
    GO P os Γ l0 res0 ws l res N fuel listed i (m1 >>= kk) := fun a w0 w ha r hm => by
  cases hm1 : m1 with
  | none => rw [hm1] at hm; cases hm
  | some s =>
    rw [hm1] at hm
    have hgw := hg.wanted ha.s
    unfold wpOp
    simp only [hi, hgw, if_true]
    refine .inl ?_
    have hrun : (execOp a.eval ⟨some d, .call ⟨.value (.func f), args.toArray, ats⟩, ty, pos, after, g⟩).run P w = .ok (.enter f (args.map a.eval).toArray) w := by
      have e0 : a.eval (.func f) = .func (.func f) #[] #[] := rfl
      simp [execOp, resolve, e0, Deferred.ofValue, invoke, run_callF hF hB hnm]
    unfold Oper.wp; rw [hrun]
    simp only [Oper.upon]
    have hH : ∀ b, (fun b => Γ.H b ∨ ∃ r v c, lr res r = some (v, c) ∧ ns.contains r = false ∧ rblk v = some b) b ↔ Γ.H b ∨ ∃ r v c, lr res r = some (v, c) ∧ ns.contains r = false ∧ rblk v = some b := fun _ => Iff.rfl
    obtain ⟨h1, h2⟩ := ResOk.of ha.s hr hH
    refine (hS s hm1 _ _ w (ArgsQ.get ha.s h2 hA) h1).mono fun e w' hR => ?_
    obtain ⟨nv, vs, rfl, hp⟩ := hR
    obtain ⟨⟨h3, h5⟩, h4, h6⟩ := ha.s.called (mp := mp) hr hH hp
    have hlent : ∀ b, Bof rin b → (∃ r0 v0 c0, ws.contains r0 = true ∧ lr res0 r0 = some (v0, c0) ∧ rblk v0 = some b) ∨ w0.heap.size ≤ b := fun b ⟨r', v, c, q1, q2⟩ => by
      obtain ⟨n, q3, q4⟩ := hr.get q1
      have hn' : ws.contains n = true := by simpa using (List.all_eq_true.1 hw) n q3
      exact ha.wsp n v c b hn' q4 q2
    have hcw : CW res0 ws w0 w' := by
      refine Keep.tr ha.cw hp.keep (fun b hb => ⟨Nat.lt_of_lt_of_le hb.1 ha.cw.size, fun hB => ?_⟩)
      rcases hlent b hB with ⟨r0, v0, c0, q1, q2, q3⟩ | q1
      · exact hb.2 r0 v0 c0 q1 q2 q3
      · have := hb.1; omega
    refine ⟨hcw, ?_⟩
    rw [hl]
    refine k s nv _ w0 w' (SH.put ⟨ha.s0, h3, hcw, ha.st.tr h5, fun r2 v2 c2 b2 k1 k2 k3 => ?_⟩ hn (he0 s nv _ _ _ _ _ h4) h4) r hm
    rcases lr_aft k2 with ⟨k', q1, q2⟩ | ⟨q1, q2⟩
    · rcases hp.own k' v2 c2 q2 b2 k3 with q3 | q3
      · exact .inr (Nat.le_trans ha.cw.size q3)
      · exact hlent b2 q3
    · exact ha.wsp r2 v2 c2 b2 k1 q2 k3
theorem oRun {e0 e : Ent} (i : Nat) (hi : os.toArray[i]? = some ⟨some d, op, ty, pos, after, g⟩) (hg : Grd os l ⟨some d, op, ty, pos, after, g⟩ true) (hn : Nat.blt d Γ.n = true) (hl : listed.setIfInBounds i true = listed')
    (h0 : ∀ S w S' w' v, e.holds S w v → e0.holds S' w' v) (he : Run Eq P Γ l res ⟨some d, op, ty, pos, after, g⟩ e) (k : GH P os Γ ((d, e0) :: l0) res0 ws ((d, e) :: l) res N fuel listed' m) : GO P os Γ l0 res0 ws l res N fuel listed i m := fun a w0 w ha ρ' hm => by
  obtain ⟨u, h1, h2⟩ := he a w ha.s
  have hgw := hg.wanted ha.s
  unfold wpOp
  simp only [hi, hgw, if_true]
  refine .inl ?_
  unfold Oper.wp; rw [h1 w rfl]
  refine ⟨ha.cw, ?_⟩
  rw [hl]
  exact k _ w0 w (ha.put hn (h0 _ _ _ _ _ h2) h2) ρ' hm
theorem oCallJ {σ : Type} {f : FuncId} {F : Func} {b : Code} {args : List Operand} {ats : Array TypeId} {pin : List Ent} {rin : Res} {m1 : Option σ} {q : σ → (Nat → Value) → Post} {kk : σ → Option ρ} (i : Nat) (ns : List Nat) (mp : List (Nat × Nat))
    (hi : os.toArray[i]? = some ⟨some d, .call ⟨.value (.func f), args.toArray, ats⟩, ty, pos, after, g⟩) (hl : listed.setIfInBounds i true = listed') (hg : Grd os l ⟨some d, .call ⟨.value (.func f), args.toArray, ats⟩, ty, pos, after, g⟩ true) (hn : Nat.blt d Γ.n = true)
    (hF : P.funcs[f]? = some F) (hB : F.body = some b) (hnm : (F.name == "runtime.NumGoroutine") = false) (hS : Spec P f pin rin m1 q) (hA : ArgsQ l args pin) (hr : SubR res rin ns) (hw : ns.all (fun n => ws.contains n) = true)
    (k : ∀ s nv, GH P os Γ ((d, .junk) :: l0) res0 ws ((d, retE (q s nv).ret) :: l) (aft ns mp (q s nv).res res) N fuel listed' (kk s)) :
    GO P os Γ l0 res0 ws l res N fuel listed i (m1 >>= kk) := oCall i ns mp (fun _ _ => .junk) hi hl hg hn hF hB hnm hS hA hr hw (fun _ _ _ _ _ _ _ _ => trivial) k
theorem oCallF {σ : Type} {f : FuncId} {F : Func} {b : Code} {args : List Operand} {ats : Array TypeId} {pin : List Ent} {rin : Res} {m1 : Option σ} {q : σ → (Nat → Value) → Post} {kk : σ → Option ρ} (i : Nat) (ns : List Nat) (mp : List (Nat × Nat))
    (hi : os.toArray[i]? = some ⟨some d, .call ⟨.value (.func f), args.toArray, ats⟩, ty, pos, after, g⟩) (hl : listed.setIfInBounds i true = listed') (hg : Grd os l ⟨some d, .call ⟨.value (.func f), args.toArray, ats⟩, ty, pos, after, g⟩ true) (hn : Nat.blt d Γ.n = true)
    (hF : P.funcs[f]? = some F) (hB : F.body = some b) (hnm : (F.name == "runtime.NumGoroutine") = false) (hS : Spec P f pin rin m1 q) (hA : ArgsQ l args pin) (hr : SubR res rin ns) (hw : ns.all (fun n => ws.contains n) = true)
    (hfl : ∀ s nv, (retE (q s nv).ret).flat) (k : ∀ s nv, GH P os Γ ((d, retE (q s nv).ret) :: l0) res0 ws ((d, retE (q s nv).ret) :: l) (aft ns mp (q s nv).res res) N fuel listed' (kk s)) :
    GO P os Γ l0 res0 ws l res N fuel listed i (m1 >>= kk) := oCall i ns mp (fun s nv => retE (q s nv).ret) hi hl hg hn hF hB hnm hS hA hr hw (fun s nv v S w S' w' h => hfl s nv S w S' w' v h) k
theorem oBind {i : Nat} {σ : Type} {m : Option σ} {k : σ → Option ρ} (h : ∀ s, m = some s → GO P os Γ l0 res0 ws l res N fuel listed i (k s)) : GO P os Γ l0 res0 ws l res N fuel listed i (m >>= k) := fun a w0 w ha r hr => by
  cases hm : m with
  | none => rw [hm] at hr; cases hr
  | some s => rw [hm] at hr; exact h s hm a w0 w ha r hr
theorem oFrz {i : Nat} {α : Type} {R : Rep α} {T : TypeId} {b : List α} {v : Value} (r : Nat) (ts : List Nat) (hr : lr res r = some (v, .list R T b)) (ht : FrL l v ts) (k : GO P os Γ (ts.map (fun t => (t, .junk)) ++ l0) res0 ws (ts.map (fun t => (t, .rd (sliceR R) b)) ++ l) ((r, none) :: res) N fuel listed i m) : GO P os Γ l0 res0 ws l res N fuel listed i m := fun a w0 w ha r' hr' => by
  refine k a w0 w ⟨?_, ha.s.frz r ts hr ht, ha.cw, fun bb hb => ⟨?_, (ha.st bb hb).2⟩, fun r2 v2 c2 b2 h1 h2 => ?_⟩ r' hr'
  · refine { ha.s0 with slots := fun t' e' ht' => ?_ }
    rw [lk_put] at ht'
    split at ht'
    · rename_i hh; cases ht'
      obtain ⟨u, h1, _⟩ := ha.s.slots t' _ (ht.get hh)
      exact ⟨u, h1, trivial⟩
    · exact ha.s0.slots t' e' ht'
  · have h1 := (ha.st bb hb).1
    refine ⟨h1.1, fun r2 v2 c2 h2 => ?_, h1.2.2⟩
    rw [lr_cons] at h2
    split at h2
    · cases h2
    · exact h1.2.1 r2 v2 c2 h2
  · rw [lr_cons] at h2
    split at h2
    · cases h2
    · exact ha.wsp r2 v2 c2 b2 h1 h2
end
end
section
open Go Go.RowKit
section
variable {P : Program} {w : World}
theorem run_loadBytesK : ∀ (l : List UInt8) (b o : Nat) (acc : ByteArray), (∀ j u, (l.map fun c => Value.int .u8 (c.toNat : Int))[j]? = some u → w.cell? ⟨b, o + j, none⟩ = some u) →
    ∃ s, (Extern.Bytes.loadBytes ⟨b, o, none⟩ l.length acc).run P w = .ok s w ∧ s.data.toList = acc.data.toList ++ l
  | [], b, o, acc, h => ⟨acc, rfl, by simp⟩
  | x :: l, b, o, acc, h => by
    have h0 : w.cell? ⟨b, o, none⟩ = some (.int .u8 (x.toNat : Int)) := h 0 _ rfl
    obtain ⟨s, h1, h2⟩ := run_loadBytesK l b (o + 1) (acc.push x) (fun j u hu => by rw [Nat.add_assoc, Nat.add_comm 1 j]; exact h (j + 1) u hu)
    refine ⟨s, ?_, by rw [h2]; simp⟩
    have hx : ((x.toNat : Nat) : Int).toNat.toUInt8 = x := by simp
    rw [show (x :: l).length = l.length + 1 from rfl]
    unfold Extern.Bytes.loadBytes
    simp [h0, add_none]
    simpa using h1
theorem run_bytesOfK {p : Option Addr} {c : Nat} {l : List UInt8} {xs : List Value} (h : Rd w (.slice p l.length c) l.length 1 xs) (hx : xs = l.map fun c => Value.int .u8 (c.toNat : Int)) : ∃ s, (Extern.Bytes.bytesOf (.slice p l.length c)).run P w = .ok s w ∧ s.data.toList = l := by
  rcases h.2 with ⟨hv, h0⟩ | ⟨b, o, sp, cap, hv, h1, h2, hsp, h3⟩
  · simp only [Value.slice.injEq] at hv
    obtain ⟨rfl, hl, -⟩ := hv
    have : l = [] := List.length_eq_zero_iff.1 hl
    subst this
    exact ⟨.empty, rfl, rfl⟩
  · simp only [Value.slice.injEq, true_and] at hv
    obtain ⟨rfl, -⟩ := hv
    rcases hsp with he | rfl
    · have : l = [] := by rw [hx] at he; simpa using he
      subst this; exact ⟨.empty, rfl, rfl⟩
    · obtain ⟨s, h4, h5⟩ := run_loadBytesK l b o .empty (by rw [← hx]; exact h3)
      exact ⟨s, h4, by rw [h5]; rfl⟩
theorem run_compareK {p q : Option Addr} {c d : Nat} {x y : List UInt8} {xs ys : List Value} (hx : Rd w (.slice p x.length c) x.length 1 xs) (hx' : xs = x.map fun c => Value.int .u8 (c.toNat : Int)) (hy : Rd w (.slice q y.length d) y.length 1 ys) (hy' : ys = y.map fun c => Value.int .u8 (c.toNat : Int)) :
    (Extern.BytealgCompare.compare #[.slice p x.length c, .slice q y.length d]).run P w = .ok (.int .i64 (Lib.compareBytes x y)) w := by
  obtain ⟨s, h1, h2⟩ := run_bytesOfK (P := P) hx hx'
  obtain ⟨t, h3, h4⟩ := run_bytesOfK (P := P) hy hy'
  change Sem.run P (do pure (goInt (Extern.BytealgCompare.cmp (← Extern.Bytes.bytesOf (.slice p x.length c)) (← Extern.Bytes.bytesOf (.slice q y.length d))))) w = _
  simp only [Sem.run_bind, h1, h3, Sem.run_pure, Result.andThen]
  rw [Lib.cmp_eq, h2, h4]
  rfl
end
section
variable {ρ : Type} {C : World → World → Prop} {P : Program} {Γ : Ctx} {l : Slots} {res : Res} {m : Option ρ} {os rest : List Oper} {N : ρ → Exit → Act → World → Prop} {d : Tmp} {ty : TypeId} {pos : String} {after : Array Edge} {g : Option (Nat × Bool)}
theorem run_extK {a : Act} {w w' : World} {fn : FuncId} {args : Array Operand} {vs : Array Value} {ats : Array TypeId} {F : Func} {e : Array Value → Sem Value} {v : Value}
    (hF : P.funcs[fn]? = some F) (hnm : (F.name == "runtime.NumGoroutine") = false) (hB : F.body.isNone = true) (hn : Extern.findNext F = none) (he : Extern.find F = some e)
    (hvs : args.map a.eval = vs) (hr : (e vs).run P w = .ok v w') : (execOp a.eval ⟨some d, .call ⟨.value (.func fn), args, ats⟩, ty, pos, after, g⟩).run P w = .ok (.value v) w' := by
  have e0 : a.eval (.func fn) = .func (.func fn) #[] #[] := rfl
  simp [execOp, resolve, e0, Deferred.ofValue, invoke, hvs, run_callFunc_extern hF hnm hB hn he, hr]
theorem cmpB {ws : List Nat} [LC C res ws] {fn : FuncId} {x y : Operand} {ats : Array TypeId} {F : Func} {b c : List UInt8} (hx : opE l x = some (.rd (sliceR u8R) b)) (hy : opE l y = some (.rd (sliceR u8R) c)) (hF : P.funcs[fn]? = some F) (hnm : (F.name == "runtime.NumGoroutine") = false) (hB : F.body.isNone = true) (hn : Extern.findNext F = none) (he : Extern.find F = some Extern.BytealgCompare.compare) :
    Run C P Γ l res ⟨some d, .call ⟨.value (.func fn), #[x, y], ats⟩, ty, pos, after, g⟩ (.rd i64R (Lib.compareBytes b c)) := fun a w ha => by
  obtain ⟨cs, ⟨p, cp, xs, k1, k2, k3, k4⟩, k5⟩ := ha.vl hx
  subst k1
  have k5 : a.eval x = .slice p b.length cp := k5
  obtain ⟨ds, ⟨q, cq, ys, j1, j2, j3, j4⟩, j5⟩ := ha.vl hy
  subst j1
  have j5 : a.eval y = .slice q c.length cq := j5
  refine ⟨_, fun w' hw' => ?_, rd_num'⟩
  have stay : Stay (Shr Γ.H res w) (Shr Γ.H res w') w w' := CW.stay hw'
  exact run_extK hF hnm hB hn he (by simp [k5, j5]) (run_compareK (k2.stay k4 stay) (relL_u8 k3) (j2.stay j4 stay) (relL_u8 j3))
theorem lCvSB {x : Operand} {S D e : TypeId} {b : List UInt8} {u : Unit} (hn : Nat.blt d Γ.n = true) (hx : opE l x = some (.rd strR b)) (hb : chk (b.length ≤ 281474976710656) = some u) (hS : P.underlying S = some .string) (hD : P.underlying D = some (.slice e)) (he : P.underlying e = some (.int .u8))
    (k : GL P os (Sta Γ ((d, .rd (sliceR u8R) b) :: l) res) rest N m) : GL P os (Sta Γ l res) (⟨some d, .convert S D x, ty, pos, after, none⟩ :: rest) N m := fun a w ha ρ hm => by
  have hb := chk_some hb
  obtain ⟨s, k1, rfl⟩ := rd_str (ha.vl hx)
  have hsz : s.data.toList.length = s.size := by simp
  rw [hsz] at hb
  generalize hw : (w.drew.alloc (.cells (bytesRow s (grownCap w s.size 0 e)) e ((bytesRow s (grownCap w s.size 0 e)).size, (bytesRow s (grownCap w s.size 0 e)).size + 1))) = w'
  have hrun : (execOp a.eval ⟨some d, .convert S D x, ty, pos, after, none⟩).run P w = .ok (.value (.slice (some ⟨w.heap.size, 0, none⟩) s.size (grownCap w s.size 0 e))) w' := by
    have := run_bytes_of_string w S D e s hS hD he
    rw [hw] at this
    simp [execOp, k1, this]
  have hE : Ext w w' := by rw [← hw]; exact Ext.tr (Ext.dr Ext.rfl') (Ext.al _ _)
  have hcell : w'.heap[w.heap.size]? = some (.cells (bytesRow s (grownCap w s.size 0 e)) e ((bytesRow s (grownCap w s.size 0 e)).size, (bytesRow s (grownCap w s.size 0 e)).size + 1)) := by
    rw [← hw]
    show (w.heap.push _)[w.heap.size]? = _
    simp
  have ha' := ha.ext hE
  have hnew : Shr Γ.H res w' w.heap.size := by
    refine ⟨(Array.getElem?_eq_some_iff.1 hcell).1, fun r v c hr e => ?_, fun hH => ?_⟩
    · exact absurd ((ha.conts r v c hr).lt e) (by omega)
    · have h1 := ha.old _ (ha.hid _ hH)
      have h2 := ha.keep.size
      omega
  refine st (g_none rfl) hrun (k _ _ (ha'.put hn ⟨_, ⟨some ⟨w.heap.size, 0, none⟩, grownCap w s.size 0 e, s.data.toList.map fun c => .int .u8 (c.toNat : Int), rfl, ⟨by simp [u8R, numR], .inr ⟨w.heap.size, 0, none, grownCap w s.size 0 e, rfl, ?_, ?_, .inr rfl, fun j u hu => ?_⟩⟩, ?_, fun _ bb hbb => by cases hbb; exact hnew⟩, by rw [← hsz]; rfl⟩) ρ hm)
  · rw [hsz]; exact grownCap_ge w s.size 0 e
  · exact grownCap_le_maxLen w s.size 0 e (by unfold maxLen; omega)
  · have hj : j < s.data.size := by
      have := (List.getElem?_eq_some_iff.1 hu).1
      simpa using this
    have h1 : u = .int .u8 (s.data[j].toNat : Int) := by
      rw [List.getElem?_map, List.getElem?_eq_getElem (by simpa using hj)] at hu
      simp only [Option.map_some, Option.some.injEq] at hu
      rw [← hu]; simp
    unfold World.cell?
    simp only [hcell]
    rw [h1, Nat.zero_add]
    exact bytesRow_at s _ j hj
  · have : ∀ b : List UInt8, relL u8R (Shr Γ.H res w') w' (b.map fun c => .int .u8 (c.toNat : Int)) b := by
      intro b
      induction b with
      | nil => rfl
      | cons c b ih => exact ⟨[_], _, rfl, rfl, ih⟩
    exact this _
end
end
section
open Go Go.RowKit
section
variable {α : Type} {ρ : Type} {C : World → World → Prop} {P : Program} {Γ : Ctx} {l : Slots} {res : Res} {m : Option ρ} {os rest : List Oper} {N : ρ → Exit → Act → World → Prop} {d : Tmp} {ty : TypeId} {pos : String} {after : Array Edge} {g : Option (Nat × Bool)}
theorem bldG {R : Rep α} {n : Nat} {x0 x' : Vector α n} {T e : TypeId} {z ze : Value} {sz by_ by2 : Nat} {parts : Array (Nat × Operand)} (hT : P.underlying T = some (.array n e)) (hI : TI P T z sz by_) (hz : Zr (arrR n R) z.cells.toList x0) (hE : TI P e ze R.sz by2)
    (h : Bld l (fun i : Nat => some (i * R.sz, R.sz)) (arrR n R) parts.toList x0 x') : Run C P Γ l res ⟨some d, .build T parts, ty, pos, after, g⟩ (.rd (arrR n R) x') := fun a w ha => by
  obtain ⟨C', h1, h2⟩ := h.get ha (hz _ w)
  refine ⟨.agg C', fun w' _ => q0_build rfl ?_, C'.toList, h2, by simp [Rep.val, arrR]⟩
  have e2 : (parts.map fun (i, x) => (i, a.eval x)).toList = parts.toList.map fun p => (p.1, a.eval p.2) := by simp
  unfold Instr.build
  simp only [Sem.run_bind, run_zero hI, Result.andThen, run_underlying hT, run_sizeOf hE, e2, h1]
  rfl
end
end
section
open Go Go.RowKit
variable {ro : Option Nat}
def Sp {α : Type} (R : Rep α) (x : α) (es : List Ent) : Prop := R.agg = true ∧ ∀ S w cs, R.rel S w cs x ↔ ∃ vs, holdsL S w es vs ∧ catC vs = cs
theorem Sp.unit : Sp unitR () [] := ⟨rfl, fun S w cs => ⟨fun h => ⟨[], trivial, (show cs = [] from h).symm⟩, fun ⟨vs, h1, h2⟩ => by
  match vs, h1 with
  | [], _ => exact h2.symm⟩⟩
theorem Sp.prod {α β : Type} {R : Rep α} {T : Rep β} {x : α} {y : β} {es : List Ent} (h : Sp T y es) : Sp (prodR R T) (x, y) (.rd R x :: es) := ⟨rfl, fun S w cs => ⟨fun ⟨c, d, h1, h2, h3⟩ => by
    obtain ⟨vs, k1, k2⟩ := (h.2 S w d).1 h3
    exact ⟨R.val c :: vs, ⟨⟨c, h2, rfl⟩, k1⟩, by rw [catC_cons, Rep.val_cells h2, k2, h1]⟩, fun ⟨vs, h1, h2⟩ => by
    match vs, h1 with
    | v :: vs, ⟨⟨c, k1, k2⟩, k3⟩ =>
      subst k2
      rw [catC_cons, Rep.val_cells k1] at h2
      exact ⟨c, _, h2.symm, k1, (h.2 S w _).2 ⟨vs, k3, rfl⟩⟩⟩⟩
theorem Sp.via {α β : Type} {g : β → α} {R : Rep α} {x : β} {es : List Ent} (h : Sp R (g x) es) : Sp (viaR g R) x es := ⟨h.1, h.2⟩
section
variable {ρ : Type} {P : Program} {Γ : Ctx} {l : Slots} {res : Res} {m : Option ρ} {a : Act} {w : World}
theorem Sta.recont (ha : Sta Γ l res a w) (r : Nat) {v : Value} {c c' : Cont} (hr : lr res r = some (v, c)) (h : c.holds (Shr Γ.H res w) w v → c'.holds (Shr Γ.H res w) w v) : Sta Γ l ((r, some (v, c')) :: res) a w :=
  (ha.upd r (v := v) (c := c') (wr := none) Ext.rfl'.gb (by simp) (fun b hb => .inl ⟨v, c, hr, hb⟩) (fun S' k' => (h (ha.conts r v c hr)).mono k' (fun b hb => rfl))).1
theorem Sta.split {α : Type} {R : Rep α} {x : α} {es : List Ent} {T : TypeId} {v : Value} (ha : Sta Γ l res a w) (r : Nat) (hr : lr res r = some (v, .box T [.rd R x])) (hs : Sp R x es) : Sta Γ l ((r, some (v, .box T es)) :: res) a w :=
  ha.recont r hr (fun h => by
    rcases h with h | ⟨b, o, h1, h2, b', vs, rfl, rfl, h3⟩
    · exact h.elim
    · match vs, h3 with
      | [u], ⟨⟨cs, k1, k2⟩, _⟩ =>
        subst k2
        obtain ⟨vs', k3, k4⟩ := (hs.2 _ w cs).1 k1
        exact .inr ⟨b, _, h1, h2, b', vs', rfl, by rw [k4]; simp [catC, Rep.val_cells k1], k3⟩)
theorem Sta.join {α : Type} {R : Rep α} {x : α} {es : List Ent} {T : TypeId} {v : Value} (ha : Sta Γ l res a w) (r : Nat) (hr : lr res r = some (v, .box T es)) (hs : Sp R x es) : Sta Γ l ((r, some (v, .box T [.rd R x])) :: res) a w :=
  ha.recont r hr (fun h => by
    rcases h with h | ⟨b, o, h1, h2, b', vs, rfl, rfl, h3⟩
    · exact h.elim
    · have k1 := (hs.2 _ w (catC vs)).2 ⟨vs, h3, rfl⟩
      exact .inr ⟨b, _, h1, h2, b', [R.val (catC vs)], rfl, by rw [show catC [R.val (catC vs)] = catC vs by rw [catC_cons, Rep.val_cells k1]; simp [catC]], ⟨_, k1, rfl⟩, trivial⟩)
theorem val_nil_rd {α : Type} (R : Rep α) {S : Blk} {w : World} {v : Value} (h : (Ent.val (.slice none 0 0)).holds S w v) : (Ent.rd (sliceR R) []).holds S w v := by
  obtain ⟨rfl, -⟩ := h
  exact ⟨_, ⟨none, 0, [], rfl, Rd.nil _ _, rfl, by simp⟩, rfl⟩
theorem Swap.holds {es es' : List Ent} {S : Blk} {w : World} {e e0 : Ent} {pre post : List Ent} (h1 : es = pre ++ e0 :: post) (h2 : es' = pre ++ e :: post) (he : ∀ v, e0.holds S w v → e.holds S w v) : ∀ {vs : List Value}, holdsL S w es vs → holdsL S w es' vs := by
  subst h1; subst h2
  induction pre with
  | nil => intro vs h; match vs, h with | v :: vs, ⟨k1, k2⟩ => exact ⟨he v k1, k2⟩
  | cons p pre ih => intro vs h; match vs, h with | v :: vs, ⟨k1, k2⟩ => exact ⟨k1, ih k2⟩
theorem Sta.partNil {α : Type} (R : Rep α) {es es' : List Ent} {T : TypeId} {v : Value} (ha : Sta Γ l res a w) (r : Nat) (pre post : List Ent) (hr : lr res r = some (v, .box T es)) (h1 : es = pre ++ .val (.slice none 0 0) :: post) (h2 : es' = pre ++ .rd (sliceR R) [] :: post) : Sta Γ l ((r, some (v, .box T es')) :: res) a w :=
  ha.recont r hr (fun h => by
    rcases h with h | ⟨b, o, k1, k2, b', vs, rfl, rfl, k3⟩
    · exact h.elim
    · exact .inr ⟨b, _, k1, k2, b', vs, rfl, rfl, Swap.holds h1 h2 (fun v hv => val_nil_rd R hv) k3⟩)
theorem Sta.partOwn {α : Type} {R : Rep α} {b : List α} {es es' : List Ent} {T E : TypeId} {v u : Value} (ha : Sta Γ l res a w) (r q : Nat) (pre post : List Ent) (hne : r ≠ q) (hr : lr res r = some (v, .box T es)) (hq : lr res q = some (u, .list R E b)) (h1 : es = pre ++ .val u :: post) (h2 : es' = pre ++ .rd (sliceR R) b :: post) : Sta Γ l ((r, some (v, .box T es')) :: (q, none) :: res) a w := by
  have hbox := ha.conts r v _ hr
  have hlist := ha.conts q u _ hq
  have hst : Stay (Shr Γ.H res w) (Shr Γ.H ((q, none) :: res) w) w w := fun bb hb => ⟨⟨hb.1, fun r' v' c' hr' => by
    rw [lr_cons] at hr'
    split at hr'
    · cases hr'
    · exact hb.2.1 r' v' c' hr', hb.2.2⟩, rfl⟩
  have ha' : Sta Γ l ((q, none) :: res) a w := by simpa using ha.frz (R := R) (T := E) (b := b) q [] hq trivial
  have hr' : lr ((q, none) :: res) r = some (v, .box T es) := (lr_cons.trans (if_neg (fun e => hne e.symm))).trans hr
  refine ha'.recont r hr' (fun _ => ?_)
  rcases hbox with h | ⟨b0, o, k1, k2, b', vs, rfl, rfl, k3⟩
  · exact h.elim
  · refine .inr ⟨b0, _, k1, k2, b', vs, rfl, rfl, Swap.holds h1 h2 (fun v' hv => ?_) (k3.mono hst)⟩
    obtain ⟨rfl, -⟩ := hv
    obtain ⟨xs, h3, h4⟩ := list_owns hlist
    obtain ⟨p, c, rfl⟩ := slice_form h3
    refine ⟨_, ⟨p, c, xs, rfl, Rd.of_own h3, h4.mono hst, fun hne' bb hbb => ?_⟩, rfl⟩
    have hbb : rblk (.slice p b.length c) = some bb := by rw [rblk_own, sblk_own]; exact hbb
    refine ⟨(ha.conts q _ _ hq).lt hbb, fun r' v' c' hr2 e => ?_, fun hH => ha.own q _ _ hq bb hbb (ha.hid bb hH)⟩
    rw [lr_cons] at hr2
    split at hr2
    · cases hr2
    · rename_i hqr
      exact ha.excl q _ _ r' v' c' hq hr2 hqr bb hbb e
variable {os rest : List Oper} {N Q : ρ → Exit → Act → World → Prop} {c : Code} {e : Exit}
theorem lSpl {α : Type} {R : Rep α} {x : α} {es : List Ent} {T : TypeId} {v : Value} (r : Nat) (hr : lr res r = some (v, .box T [.rd R x])) (hs : Sp R x es) (k : GL P os (Sta Γ l ((r, some (v, .box T es)) :: res)) rest N m) : GL P os (Sta Γ l res) rest N m := fun a w ha => k a w (ha.split r hr hs)
theorem lJoi {α : Type} {R : Rep α} (x : α) {es : List Ent} {T : TypeId} {v : Value} (r : Nat) (hr : lr res r = some (v, .box T es)) (hs : Sp R x es) (k : GL P os (Sta Γ l ((r, some (v, .box T [.rd R x])) :: res)) rest N m) : GL P os (Sta Γ l res) rest N m := fun a w ha => k a w (ha.join r hr hs)
theorem lPnl {α : Type} (R : Rep α) {es : List Ent} (es' : List Ent) {T : TypeId} {v : Value} (r : Nat) (pre post : List Ent) (hr : lr res r = some (v, .box T es)) (h1 : es = pre ++ .val (.slice none 0 0) :: post) (h2 : es' = pre ++ .rd (sliceR R) [] :: post) (k : GL P os (Sta Γ l ((r, some (v, .box T es')) :: res)) rest N m) : GL P os (Sta Γ l res) rest N m := fun a w ha => k a w (ha.partNil R r pre post hr h1 h2)
theorem lPow {α : Type} {R : Rep α} {b : List α} {es : List Ent} (es' : List Ent) {T E : TypeId} {v u : Value} (r q : Nat) (pre post : List Ent) (hne : (r == q) = false) (hr : lr res r = some (v, .box T es)) (hq : lr res q = some (u, .list R E b)) (h1 : es = pre ++ .val u :: post) (h2 : es' = pre ++ .rd (sliceR R) b :: post) (k : GL P os (Sta Γ l ((r, some (v, .box T es')) :: (q, none) :: res)) rest N m) : GL P os (Sta Γ l res) rest N m := fun a w ha => k a w (ha.partOwn r q pre post (by simpa using hne) hr hq h1 h2)
theorem gJoi {α : Type} {R : Rep α} (x : α) {es : List Ent} {T : TypeId} {v : Value} (r : Nat) (hr : lr res r = some (v, .box T es)) (hs : Sp R x es) (k : G ro P (Sta Γ l ((r, some (v, .box T [.rd R x])) :: res)) c Q m) : G ro P (Sta Γ l res) c Q m := fun a w ha => k a w (ha.join r hr hs)
theorem gPow {α : Type} {R : Rep α} {b : List α} {es : List Ent} (es' : List Ent) {T E : TypeId} {v u : Value} (r q : Nat) (pre post : List Ent) (hne : (r == q) = false) (hr : lr res r = some (v, .box T es)) (hq : lr res q = some (u, .list R E b)) (h1 : es = pre ++ .val u :: post) (h2 : es' = pre ++ .rd (sliceR R) b :: post) (k : G ro P (Sta Γ l ((r, some (v, .box T es')) :: (q, none) :: res)) c Q m) : G ro P (Sta Γ l res) c Q m := fun a w ha => k a w (ha.partOwn r q pre post (by simpa using hne) hr hq h1 h2)
theorem eJoi {α : Type} {R : Rep α} (x : α) {es : List Ent} {T : TypeId} {v : Value} (r : Nat) (hr : lr res r = some (v, .box T es)) (hs : Sp R x es) (k : GE (Sta Γ l ((r, some (v, .box T [.rd R x])) :: res)) e Q m) : GE (Sta Γ l res) e Q m := fun a w ha => k a w (ha.join r hr hs)
theorem ePnl {α : Type} (R : Rep α) {es : List Ent} (es' : List Ent) {T : TypeId} {v : Value} (r : Nat) (pre post : List Ent) (hr : lr res r = some (v, .box T es)) (h1 : es = pre ++ .val (.slice none 0 0) :: post) (h2 : es' = pre ++ .rd (sliceR R) [] :: post) (k : GE (Sta Γ l ((r, some (v, .box T es')) :: res)) e Q m) : GE (Sta Γ l res) e Q m := fun a w ha => k a w (ha.partNil R r pre post hr h1 h2)
end
def BldE (l : Slots) (place : Nat → Option (Nat × Nat)) : List (Nat × Operand) → List Ent → List Ent → Prop
  | [], es, es' => es = es'
  | (i, o) :: ps, es, es' => ∃ (e : Ent) (off n : Nat) (es1 : List Ent), opE l o = some e ∧ place i = some (off, n) ∧ e.fills n ∧ Swap es off n e es1 ∧ BldE l place ps es1 es'
theorem BldE.done {l : Slots} {place : Nat → Option (Nat × Nat)} {es es' : List Ent} (h : es = es') : BldE l place [] es es' := h
theorem BldE.cons {l : Slots} {place : Nat → Option (Nat × Nat)} {i : Nat} {o : Operand} {ps : List (Nat × Operand)} {e : Ent} {off n : Nat} {es es1 es' : List Ent} (h : opE l o = some e) (hp : place i = some (off, n)) (hf : e.fills n) (hs : Swap es off n e es1) (k : BldE l place ps es1 es') : BldE l place ((i, o) :: ps) es es' := ⟨e, off, n, es1, h, hp, hf, hs, k⟩
theorem Swap.put {es es' : List Ent} {k n : Nat} {e : Ent} {S : Blk} {w : World} (h : Swap es k n e es') {vs : List Value} {v : Value} (hv : e.holds S w v) (hn : v.cells.size = n) (hvs : holdsL S w es vs) : ∃ vs', holdsL S w es' vs' ∧ (catC vs').toArray = spl (catC vs).toArray k v.cells.toList ∧ k + n ≤ (catC vs).length := by
  obtain ⟨pre, post, e0, rfl, rfl, hn0, hk⟩ := h
  obtain ⟨us, ts, rfl, h5, h6⟩ := hvs.app
  match ts, h6 with
  | y0 :: ts, ⟨h7, h8⟩ =>
    have hl := hk _ _ _ h5
    have hy0 : y0.cells.toList.length = n := by have := hn0 _ _ _ h7; simpa using this
    refine ⟨us ++ v :: ts, h5.mk ⟨hv, h8⟩, ?_, by simp only [catC_app, catC_cons, List.length_append]; omega⟩
    subst hl
    unfold spl; congr 1
    have : v.cells.toList.length = n := by simpa using hn
    simp only [catC_app, catC_cons, this]
    rw [show ∀ A B Cc : List Value, A.length + n = (A ++ B).length → List.drop (A.length + n) (A ++ (B ++ Cc)) = Cc by
      intro A B Cc h; rw [h, ← List.append_assoc, List.drop_left']; rfl]
    · simp
    · simp [hy0]
theorem BldE.get {Γ : Ctx} {l : Slots} {res : Res} {a : Act} {w : World} (ha : Sta Γ l res a w) {place : Nat → Option (Nat × Nat)} : ∀ {ps : List (Nat × Operand)} {es es' : List Ent} {vs : List Value}, BldE l place ps es es' → holdsL (Shr Γ.H res w) w es vs →
    ∃ vs', Instr.fill place (catC vs).toArray (ps.map fun p => (p.1, a.eval p.2)) = some (catC vs').toArray ∧ holdsL (Shr Γ.H res w) w es' vs'
  | [], es, es', vs, h, hv => by have h : es = es' := h; subst h; exact ⟨vs, rfl, hv⟩
  | (i, o) :: ps, es, es', vs, h, hv => by
    obtain ⟨e, off, n, es1, h1, h2, h3, h4, h5⟩ := h
    have hy := ha.vl h1
    have hyn : (a.eval o).cells.size = n := h3 _ _ _ hy
    obtain ⟨vs1, k1, k2, k3⟩ := h4.put hy hyn hv
    obtain ⟨vs', q1, q2⟩ := BldE.get ha h5 k1
    refine ⟨vs', ?_, q2⟩
    simp only [List.map_cons]
    rw [fill_step h2 hyn (by simpa using k3), ← k2]; exact q1
def fillsL (es : List Ent) (n : Nat) : Prop := ∀ S w vs, holdsL S w es vs → (catC vs).length = n
theorem fillsL.nil : fillsL [] 0 := fun S w vs h => by match vs, h with | [], _ => rfl
theorem fillsL.cons {e : Ent} {es : List Ent} {n k : Nat} (h : e.fills n) (p : fillsL es k) : fillsL (e :: es) (n + k) := fun S w vs hh => by
  match vs, hh with
  | v :: vs, ⟨h1, h2⟩ => rw [catC_cons, List.length_append, p S w vs h2]; have := h S w v h1; simp [this]
def onesL (es : List Ent) : Prop := ∀ S w vs, holdsL S w es vs → ∀ u ∈ catC vs, u.oneCell' = true
theorem onesL.nil : onesL [] := fun S w vs h u hu => by match vs, h with | [], _ => simp [catC] at hu
theorem onesL.cons {e : Ent} {es : List Ent} (h : e.ones) (p : onesL es) : onesL (e :: es) := fun S w vs hh u hu => by
  match vs, hh with
  | v :: vs, ⟨h1, h2⟩ =>
    rw [catC_cons] at hu
    rcases List.mem_append.1 hu with k | k
    · exact h S w v h1 u k
    · exact p S w vs h2 u k
section
variable {C : World → World → Prop} {P : Program} {Γ : Ctx} {l : Slots} {res : Res} {d : Tmp} {ty : TypeId} {pos : String} {after : Array Edge} {g : Option (Nat × Bool)}
theorem bldE {es0 es' : List Ent} {T : TypeId} {z : Value} {sz by_ : Nat} {parts : Array (Nat × Operand)} {fs : Array Field} (pl : List (Nat × Nat)) (hT : P.underlying T = some (.struct fs)) (hI : TI P T z sz by_) (hz : ZeroIs z es0)
    (hp : fs.toList.map (fun f => (f.offset, (P.info? f.type).map (·.size))) = pl.map (fun p => (p.1, some p.2))) (h : BldE l (fun i : Nat => pl[i]?) parts.toList es0 es') : Run C P Γ l res ⟨some d, .build T parts, ty, pos, after, g⟩ (.agg es') := fun a w ha => by
  obtain ⟨vs, hv1, hv2⟩ := hz (Shr Γ.H res w) w
  obtain ⟨vs', h1, h2⟩ := h.get ha hv2
  rw [hv1, Array.toArray_toList] at h1
  refine ⟨.agg (catC vs').toArray, fun w' _ => q0_build rfl ?_, vs', h2, rfl⟩
  have e1 : (fs.mapM (m := Sem) fun f => do pure (f.offset, ← sizeOf f.type)).run P w' = .ok pl.toArray w' := by
    rw [← Array.toArray_toList (xs := fs), List.mapM_toArray]
    simp only [map_eq_pure_bind, Sem.run_bind, run_places fs.toList pl hp, Result.andThen, Sem.run_pure]
  have e2 : (parts.map fun (i, x) => (i, a.eval x)).toList = parts.toList.map fun p => (p.1, a.eval p.2) := by simp
  unfold Instr.build
  simp only [Sem.run_bind, run_zero hI, Result.andThen, run_underlying hT, e1, e2]
  have e3 : (fun i : Nat => pl.toArray[i]?) = fun i : Nat => pl[i]? := by funext i; simp
  rw [e3, h1]; rfl
theorem stoG {t T : TypeId} {x y : Operand} {v z : Value} {by_ n : Nat} {es es' : List Ent} (r : Nat) (hx : opE l x = some (.val (ptrTo v 0))) (hr : lr res r = some (v, .box T es)) (h0 : fillsL es n)
    (hy : opE l y = some (.agg es')) (h1e : onesL es') (hn : fillsL es' n) (hS : TI P t z n by_) : EffS P Γ l res ⟨none, .store t x y, ty, pos, after, g⟩ r (v, .box T es') := fun a w ha => by
  have h1 := (ha.vl hx).1
  obtain ⟨ys, hy1, hy2⟩ := ha.vl hy
  rcases ha.conts r v _ hr with h2 | ⟨b, o, h2, h3, b', vs, rfl, rfl, h4⟩
  · exact h2.elim
  · simp only [rblk, Option.some.injEq] at h2
    subst h2
    rw [ptrTo_ptr] at h1
    have hB : Bx w b' (catC vs).toArray T := h3
    have hyc : (a.eval y).cells = (catC ys).toArray := by rw [hy2]; rfl
    have hyn : (a.eval y).cells.size = n := by rw [hyc]; simp [hn _ _ _ hy1]
    have hl := h0 _ _ _ h4
    have hrun := run_storeB (P := P) (w := w) (b := b') (o := 0) (v := a.eval y) hS hyn (by rw [hyc]; simpa using h1e _ _ _ hy1) hB (by simp [hl])
    have hsp : spl (catC vs).toArray 0 (a.eval y).cells.toList = (catC ys).toArray := by
      rw [hyc]
      have := hn _ _ _ hy1
      unfold spl; simp [this, hl]
    rw [hsp] at hrun
    refine ⟨w.setRow b' (catC ys).toArray, ?_, ?_, some b', setRow_gr b' _, fun b hb => ⟨_, _, hr, by cases hb; rfl⟩⟩
    · simp [execOp, h1, Instr.storeAt, Instr.sureAddr, hrun]
    · exact ha.upd r (setRow_gr b' _) (fun b hb => ⟨_, _, hr, by cases hb; rfl⟩) (fun b hb => .inl ⟨_, _, hr, hb⟩) (fun S' k' => .inr ⟨b', _, rfl, setRow_heap w b' _ _ T _ hB, b', ys, rfl, rfl, hy1.mono k'⟩)
theorem ZeroIs.nil {z : Value} (h : z.cells.toList = []) : ZeroIs z [] := fun S w => ⟨[], by rw [h]; rfl, trivial⟩
theorem ZeroIs.parts {z : Value} {es : List Ent} (h : ∀ S w, ∃ vs, catC vs = z.cells.toList ∧ holdsL S w es vs) : ZeroIs z es := h
def ZrE (cs : List Value) (es : List Ent) : Prop := ∀ S w, ∃ vs, catC vs = cs ∧ holdsL S w es vs
theorem ZrE.nil : ZrE [] [] := fun S w => ⟨[], rfl, trivial⟩
theorem ZrE.rd {α : Type} {R : Rep α} {x : α} {c d cs : List Value} {es : List Ent} (h : Zr R c x) (k : ZrE d es) (e : c ++ d = cs) : ZrE cs (.rd R x :: es) := fun S w => by
  obtain ⟨vs, h1, h2⟩ := k S w
  exact ⟨R.val c :: vs, by rw [catC_cons, Rep.val_cells (h S w), h1, e], ⟨c, h S w, rfl⟩, h2⟩
theorem ZrE.nilS {d : List Value} {es : List Ent} (k : ZrE d es) : ZrE (.slice none 0 0 :: d) (.val (.slice none 0 0) :: es) := fun S w => by
  obtain ⟨vs, h1, h2⟩ := k S w
  exact ⟨.slice none 0 0 :: vs, by rw [catC_cons, h1]; rfl, ⟨rfl, rfl⟩, h2⟩
theorem Foc.cast {α : Type} {c : Cont} {k k' : Nat} {R : Rep α} {x : α} {upd : α → Cont} (f : Foc c k' R x upd) (h : k' = k) : Foc c k R x upd := h ▸ f
theorem At.cast {es : List Ent} {k k' : Nat} {e : Ent} (f : At es k' e) (h : k' = k) : At es k e := h ▸ f
theorem Swap.cast {es es' : List Ent} {k k' n : Nat} {e : Ent} (f : Swap es k' n e es') (h : k' = k) : Swap es k n e es' := h ▸ f
theorem fillsL.cast {es : List Ent} {n n' : Nat} (f : fillsL es n') (h : n' = n) : fillsL es n := h ▸ f
end
end
section
open Go Go.RowKit
section
variable {S : Blk} {w : World} {v : Value} {T : TypeId}
theorem box_split {α : Type} {R : Rep α} {x : α} {es : List Ent} (hs : Sp R x es) (h : (Cont.box T [.rd R x]).holds S w v) : (Cont.box T es).holds S w v := by
  rcases h with h | ⟨b, o, h1, h2, b', vs, rfl, rfl, h3⟩
  · exact h.elim
  · match vs, h3 with
    | [u], ⟨⟨cs, k1, k2⟩, _⟩ =>
      subst k2
      obtain ⟨vs', k3, k4⟩ := (hs.2 _ w cs).1 k1
      exact .inr ⟨b, _, h1, h2, b', vs', rfl, by rw [k4]; simp [catC, Rep.val_cells k1], k3⟩
end
section
variable {ρ : Type} {P : Program} {Γ : Ctx} {l l0 : Slots} {res res0 : Res} {ws : List Nat} {m : Option ρ} {os : List Oper} {N : ρ → Exit → Act → World → Prop} {fuel i : Nat} {listed : Array Bool} {a : Act} {w0 w : World}
theorem SH.recont (h : SH Γ l0 res0 ws l res a w0 w) (r : Nat) {v : Value} {c c' : Cont} (hr : lr res r = some (v, c)) (hc : c'.holds (Shr Γ.H res w) w v) : SH Γ l0 res0 ws l ((r, some (v, c')) :: res) a w0 w := by
  have hu := h.s.upd r (v := v) (c := c') (wr := none) Ext.rfl'.gb (by simp) (fun b hb => .inl ⟨v, c, hr, hb⟩) (fun S' k' => hc.mono k' (fun b hb => rfl))
  refine ⟨h.s0, hu.1, h.cw, h.st.tr hu.2, fun r2 v2 c2 b2 h1 h2 h3 => ?_⟩
  rw [lr_cons] at h2
  split at h2
  · rename_i e; subst e; cases h2; exact h.wsp _ v c b2 h1 hr h3
  · exact h.wsp r2 v2 c2 b2 h1 h2 h3
theorem SH.drop {α : Type} {R : Rep α} {E : TypeId} {b : List α} {v : Value} (h : SH Γ l0 res0 ws l res a w0 w) (q : Nat) (hq : lr res q = some (v, .list R E b)) : SH Γ l0 res0 ws l ((q, none) :: res) a w0 w := by
  refine ⟨h.s0, by simpa using h.s.frz (R := R) (T := E) (b := b) q [] hq trivial, h.cw, fun bb hb => ⟨?_, (h.st bb hb).2⟩, fun r2 v2 c2 b2 h1 h2 => ?_⟩
  · have h1 := (h.st bb hb).1
    refine ⟨h1.1, fun r2 v2 c2 h2 => ?_, h1.2.2⟩
    rw [lr_cons] at h2
    split at h2
    · cases h2
    · exact h1.2.1 r2 v2 c2 h2
  · rw [lr_cons] at h2
    split at h2
    · cases h2
    · exact h.wsp r2 v2 c2 b2 h1 h2
theorem SH.partOwn {α : Type} {R : Rep α} {b : List α} {es es' : List Ent} {T E : TypeId} {v u : Value} (h : SH Γ l0 res0 ws l res a w0 w) (r q : Nat) (pre post : List Ent) (hne : r ≠ q) (hr : lr res r = some (v, .box T es)) (hq : lr res q = some (u, .list R E b)) (h1 : es = pre ++ .val u :: post) (h2 : es' = pre ++ .rd (sliceR R) b :: post) : SH Γ l0 res0 ws l ((r, some (v, .box T es')) :: (q, none) :: res) a w0 w := by
  have hd := h.drop q hq
  have hr' : lr ((q, none) :: res) r = some (v, .box T es) := (lr_cons.trans (if_neg (fun e => hne e.symm))).trans hr
  have hc := (h.s.partOwn r q pre post hne hr hq h1 h2).conts r v _ (lr_cons.trans (if_pos rfl))
  refine hd.recont r hr' (hc.mono (fun bb hb => ⟨⟨hb.1, fun r2 v2 c2 k2 => ?_, hb.2.2⟩, rfl⟩) (fun _ _ => rfl))
  by_cases e : r = r2
  · subst e
    rw [hr'] at k2; cases k2
    exact hb.2.1 r v _ (lr_cons.trans (if_pos rfl))
  · exact hb.2.1 r2 v2 c2 ((lr_cons.trans (if_neg e)).trans k2)
theorem hSpl {α : Type} {R : Rep α} {x : α} {es : List Ent} {T : TypeId} {v : Value} (r : Nat) (hr : lr res r = some (v, .box T [.rd R x])) (hs : Sp R x es) (k : GH P os Γ l0 res0 ws l ((r, some (v, .box T es)) :: res) N fuel listed m) : GH P os Γ l0 res0 ws l res N fuel listed m := fun a w0 w ha => k a w0 w (ha.recont r hr (box_split hs (ha.s.conts r v _ hr)))
end
end
section
open Go Go.RowKit
variable {ro : Option Nat}
def Cont.glob {α : Type} (g : Nat) (R : Rep α) (x : α) : Cont where
  nil S w v := v = .bool true ∧ (Ent.rp R x).holds S w (.pointer (some ⟨g, 0, none⟩))
  nilm k h := ⟨h.1, (Ent.rp R x).mono k h.2⟩
  nilb h := by rw [h.1]; rfl
  rel _ _ _ _ := False
  mono _ h := h
section
variable {C : World → World → Prop} {P : Program} {Γ : Ctx} {l : Slots} {res : Res} {d : Tmp} {ty : TypeId} {pos : String} {after : Array Edge} {g : Option (Nat × Bool)}
theorem glob_rp {α : Type} {gl : Nat} {R : Rep α} {x : α} {v : Value} {a : Act} {w : World} (ha : Sta Γ l res a w) (r : Nat) (hr : lr res r = some (v, .glob gl R x)) : (Ent.rp R x).holds (Shr Γ.H res w) w (.pointer (some ⟨gl, 0, none⟩)) := by
  rcases ha.conts r v _ hr with h | ⟨b, o, _, _, h⟩
  · exact h.2
  · exact h.elim
theorem ixG {α β : Type} {n : Nat} {R : Rep α} {b : Vector α n} {y : α} {k : IntKind} {f : β → Int} {j : β} {z' : Operand} {T e : TypeId} {z v : Value} {by_ gl : Nat} (r : Nat) (hr : lr res r = some (v, .glob gl (arrR n R) b)) (hj : opE l z' = some (.rd (numR k f) j)) (hy : vidx b (f j) = some y) (hT : P.underlying T = some (.array n e)) (hE : TI P e z R.sz by_) :
    Run C P Γ l res ⟨some d, .indexAddr T (.global gl) z', ty, pos, after, g⟩ (.rp R y) := fun a w ha => by
  obtain ⟨b', o, h1, h2⟩ := (Part.el hy).ptr (glob_rp ha r hr)
  obtain ⟨k1, k3⟩ := vidx_lt hy
  have hj' : a.eval z' = .int k ((f j).toNat : Int) := by rw [rd_num (ha.vl hj)]; congr 1; omega
  have hx : a.eval (.global gl) = .pointer (some ⟨gl, 0, none⟩) := rfl
  exact ⟨_, fun w' _ => q0_indexAddrA hT hE (hx.trans h1) hj' rfl k3 rfl, h2⟩
end
theorem gVoid {ρ : Type} {P : Program} {A : Asn} {c : Code} {Q : ρ → Exit → Act → World → Prop} : G ro P A c Q none := fun a w ha r hr => by cases hr
section
variable {ρ : Type} {P : Program} {Γ : Ctx} {l l0 : Slots} {res res0 : Res} {ws : List Nat} {m m1 m2 : Option ρ} {os : List Oper} {N : ρ → Exit → Act → World → Prop}
  {d : Tmp} {op : Op} {ty : TypeId} {pos : String} {after : Array Edge} {g : Option (Nat × Bool)} {fuel i : Nat} {listed listed' : Array Bool} {rest : List Oper}
theorem hCallV {σ : Type} {f : FuncId} {F : Func} {b : Code} {args : List Operand} {ats : Array TypeId} {x : Operand} {cap : List Value} {pin pa pc : List Ent} {rin : Res} {m1 : Option σ} {q : σ → (Nat → Value) → Post} {kk : σ → Option ρ} (i : Nat) (ns : List Nat) (mp : List (Nat × Nat)) (e0 : σ → (Nat → Value) → Ent)
    (hi : os.toArray[i]? = some ⟨some d, .call ⟨.value x, args.toArray, ats⟩, ty, pos, after, g⟩) (hrd : Region.ready .any os.toArray listed = [i]) (hl : listed.setIfInBounds i true = listed') (hg : Grd os l ⟨some d, .call ⟨.value x, args.toArray, ats⟩, ty, pos, after, g⟩ true) (hn : Nat.blt d Γ.n = true)
    (hF : P.funcs[f]? = some F) (hB : F.body = some b) (hnm : (F.name == "runtime.NumGoroutine") = false) (hx : opE l x = some (.val (.func (.func f) #[] cap.toArray))) (hS : Spec P f pin rin m1 q) (hA : ArgsQ l args pa) (hC : CapQ res cap pc) (hpp : pin = pa ++ pc) (hr : SubR res rin ns) (hw : ns.all (fun n => ws.contains n) = true)
    (he0 : ∀ s nv v S w S' w', (retE (q s nv).ret).holds S w v → (e0 s nv).holds S' w' v)
    (k : ∀ s nv, GH P os Γ ((d, e0 s nv) :: l0) res0 ws ((d, retE (q s nv).ret) :: l) (aft ns mp (q s nv).res res) N fuel listed' (kk s)) :
    GH P os Γ l0 res0 ws l res N (fuel + 1) listed (m1 >>= kk) := fun a w0 w ha r hm => by
  subst hpp
  cases hm1 : m1 with
  | none => rw [hm1] at hm; cases hm
  | some s =>
    rw [hm1] at hm
    refine wpAnyH_all hrd (by simp) (fun j hj => ?_)
    simp only [List.mem_singleton] at hj
    subst hj
    have hgw := hg.wanted ha.s
    unfold wpOp
    simp only [hi, hgw, if_true]
    refine .inl ?_
    have hrun : (execOp a.eval ⟨some d, .call ⟨.value x, args.toArray, ats⟩, ty, pos, after, g⟩).run P w = .ok (.enter f (args.map a.eval ++ cap).toArray) w := by
      simp [execOp, resolve, (ha.s.vl hx).1, Deferred.ofValue, invoke, run_callF hF hB hnm, ← Array.append_assoc]
    unfold Oper.wp; rw [hrun]
    simp only [Oper.upon]
    have hH : ∀ b, (fun b => Γ.H b ∨ ∃ r v c, lr res r = some (v, c) ∧ ns.contains r = false ∧ rblk v = some b) b ↔ Γ.H b ∨ ∃ r v c, lr res r = some (v, c) ∧ ns.contains r = false ∧ rblk v = some b := fun _ => Iff.rfl
    obtain ⟨h1, h2⟩ := ResOk.of ha.s hr hH
    refine (hS s hm1 _ _ w ((ArgsQ.get ha.s h2 hA).mk (CapQ.get ha.s hC)) h1).mono fun e w' hR => ?_
    obtain ⟨nv, vs, rfl, hp⟩ := hR
    obtain ⟨⟨h3, h5⟩, h4, h6⟩ := ha.s.called (mp := mp) hr hH hp
    have hlent : ∀ b, Bof rin b → (∃ r0 v0 c0, ws.contains r0 = true ∧ lr res0 r0 = some (v0, c0) ∧ rblk v0 = some b) ∨ w0.heap.size ≤ b := fun b ⟨r', v, c, q1, q2⟩ => by
      obtain ⟨n, q3, q4⟩ := hr.get q1
      have hn' : ws.contains n = true := by simpa using (List.all_eq_true.1 hw) n q3
      exact ha.wsp n v c b hn' q4 q2
    have hcw : CW res0 ws w0 w' := by
      refine Keep.tr ha.cw hp.keep (fun b hb => ⟨Nat.lt_of_lt_of_le hb.1 ha.cw.size, fun hB => ?_⟩)
      rcases hlent b hB with ⟨r0, v0, c0, q1, q2, q3⟩ | q1
      · exact hb.2 r0 v0 c0 q1 q2 q3
      · have := hb.1; omega
    refine ⟨hcw, ?_⟩
    rw [hl]
    refine k s nv _ w0 w' (SH.put ⟨ha.s0, h3, hcw, ha.st.tr h5, fun r2 v2 c2 b2 k1 k2 k3 => ?_⟩ hn (he0 s nv _ _ _ _ _ h4) h4) r hm
    rcases lr_aft k2 with ⟨k', q1, q2⟩ | ⟨q1, q2⟩
    · rcases hp.own k' v2 c2 q2 b2 k3 with q3 | q3
      · exact .inr (Nat.le_trans ha.cw.size q3)
      · exact hlent b2 q3
    · exact ha.wsp r2 v2 c2 b2 k1 q2 k3
theorem hCallVF {σ : Type} {f : FuncId} {F : Func} {b : Code} {args : List Operand} {ats : Array TypeId} {x : Operand} {cap : List Value} {pin pa pc : List Ent} {rin : Res} {m1 : Option σ} {q : σ → (Nat → Value) → Post} {kk : σ → Option ρ} (i : Nat) (ns : List Nat) (mp : List (Nat × Nat))
    (hi : os.toArray[i]? = some ⟨some d, .call ⟨.value x, args.toArray, ats⟩, ty, pos, after, g⟩) (hrd : Region.ready .any os.toArray listed = [i]) (hl : listed.setIfInBounds i true = listed') (hg : Grd os l ⟨some d, .call ⟨.value x, args.toArray, ats⟩, ty, pos, after, g⟩ true) (hn : Nat.blt d Γ.n = true)
    (hF : P.funcs[f]? = some F) (hB : F.body = some b) (hnm : (F.name == "runtime.NumGoroutine") = false) (hx : opE l x = some (.val (.func (.func f) #[] cap.toArray))) (hS : Spec P f pin rin m1 q) (hA : ArgsQ l args pa) (hC : CapQ res cap pc) (hpp : pin = pa ++ pc) (hr : SubR res rin ns) (hw : ns.all (fun n => ws.contains n) = true)
    (hfl : ∀ s nv, (retE (q s nv).ret).flat) (k : ∀ s nv, GH P os Γ ((d, retE (q s nv).ret) :: l0) res0 ws ((d, retE (q s nv).ret) :: l) (aft ns mp (q s nv).res res) N fuel listed' (kk s)) :
    GH P os Γ l0 res0 ws l res N (fuel + 1) listed (m1 >>= kk) := hCallV i ns mp (fun s nv => retE (q s nv).ret) hi hrd hl hg hn hF hB hnm hx hS hA hC hpp hr hw (fun s nv v S w S' w' h => hfl s nv S w S' w' v h) k
end
end
section
open Go Go.RowKit Go.ChangeShapes
section
variable {P : Program} {w : World} {H : Type} {enc : TypeId × Value → H}
theorem arr_ints {base : Nat} {spare : Nat → Bool} {held : Bool} {fuel : Nat} {T e : TypeId} {n : Nat} {k : IntKind} {cs : List Value} {ds : List Int} {p : List MemPlace} (hT : P.underlying T = some (.array n e)) (he : P.underlying e = some (.int k)) (hc : P.cellsOf e = 1) (hl : P.cellsOf T = n)
    (h : DataW.trod enc P w base spare held fuel T cs = some (.agg (ds.map fun i => .lit (.int k i)), p)) : cs = ds.map (fun i => Value.int k i) := by
  obtain ⟨xs, m, -, hx, hlen, hxl, hi⟩ := DataW.trod_array hT h
  simp only [Prod.mk.injEq, DataW.agg.injEq] at hx
  have hx := hx.1
  have hlen2 : ds.length = n := by have := congrArg List.length hx; simpa [hxl] using this
  rw [hc] at hi
  apply List.ext_getElem
  · rw [hlen, hl]; simp [hlen2]
  · intro i h1 h2
    have hin : i < n := by rw [hlen, hl] at h1; exact h1
    have h3 := hi i hin
    rw [List.getElem?_eq_getElem (by omega)] at h3
    obtain ⟨v, e1, e2, -⟩ := DataW.trod_int he h3
    have e3 : (cs.drop (i * 1)).take 1 = [cs[i]] := by rw [Nat.mul_one, List.drop_eq_getElem_cons h1]; rfl
    rw [e3] at e1
    have e4 : cs[i] = .int k v := by simpa using e1
    have e5 : (xs.map (·.1))[i]'(by simp; omega) = .lit (.int k v) := by simp [e2]
    have e6 : (xs.map (·.1))[i]'(by simp; omega) = .lit (.int k (ds[i]'(by omega))) := by simp [← hx]
    rw [e5] at e6
    have e7 : v = ds[i]'(by omega) := by simpa using e6
    rw [e4, e7]; simp
theorem relL_nums {α : Type} {k : IntKind} {f : α → Int} {S : Blk} : ∀ l : List α, relL (numR k f) S w (l.map fun x => Value.int k (f x)) l
  | [] => rfl
  | x :: l => ⟨[.int k (f x)], _, rfl, rfl, relL_nums l⟩
theorem glob_laid {nm : String} {d : DataW Unit} {g : Nat} {T e : TypeId} {n : Nat} {k : IntKind} {α : Type} {f : α → Int} {x : Vector α n} (h : laidMetH P [(nm, d)] w) (hp : ([(nm, d)].all fun x => x.2.handleName?.isNone) = true) (hg : P.globalNamed nm = some g) (ht : (P.globals[g]?).map (·.type) = some T)
    (hT : P.underlying T = some (.array n e)) (he : P.underlying e = some (.int k)) (hc : P.cellsOf e = 1) (hl : P.cellsOf T = n) (hn : 0 < n) (hd : d = .agg ((x.toList.map f).map fun i => .lit (.int k i))) : (Ent.rp (arrR n (numR k f)) x).holds (AllB w) w (.pointer (some ⟨g, 0, none⟩)) := by
  rw [MakeChecks.laidMetH_plain _ _ _ hp] at h
  obtain ⟨ps, ⟨g0, t0, cs0, f0, p0, q0, hg0, ht0, hv0, hd0, _, _⟩, _, _⟩ := h
  obtain rfl := Option.some.inj (hg.symm.trans hg0)
  obtain rfl := Option.some.inj (ht.symm.trans ht0)
  rw [hd] at hd0
  have hcs := arr_ints hT he hc hl hd0
  have hcell : ∀ (j : Nat) (u : Value), cs0.toList[j]? = some u → w.cell? ⟨g, 0 + j, none⟩ = some u := fun j u hu => by
    rw [Nat.zero_add, World.var?_cell hg hv0 j]; simpa using hu
  refine ⟨g, 0, cs0.toList, rfl, ?_, ?_, hcell⟩
  · have hz : cs0.toList.length = n := by rw [hcs]; simp
    have h0 : cs0.toList[0]? = some (cs0.toList[0]'(by omega)) := List.getElem?_eq_getElem (by omega)
    exact ⟨World.block_lt_of_cell? w ⟨g, 0 + 0, none⟩ (hcell 0 _ h0), fun r v c h => by simp [lr, lk] at h, fun h => h⟩
  · show relL (numR k f) (AllB w) w cs0.toList x.toList
    rw [hcs, List.map_map]
    exact relL_nums x.toList
theorem Spec.lawG {f : FuncId} {pin : List Ent} {rin : Res} {m : Option Bool} {vs : List Value} {W : World} (hS : Spec P f pin rin m (fun r nv => ⟨[.rd boolR r], rin⟩)) (hm : m = some true) (hv : holdsL (AllB W) W pin vs)
    (hb : ∀ r v c, lr rin r = some (v, c) → rblk v = none) (hc : ∀ r v c, lr rin r = some (v, c) → c.holds (AllB W) W v) :
    Calls P f vs.toArray W (fun e W' => e = .returned (.bool true) ∧ Ext W W') := by
  have hno : ∀ b, ¬ Bof rin b := fun b ⟨r, v, c, h, h2⟩ => by rw [hb r v c h] at h2; cases h2
  have hst : Stay (AllB W) (Shr (fun _ => False) rin W) W W := fun b hb' => ⟨⟨hb'.1, fun r v c h e => (by rw [hb r v c h] at e; cases e), fun h => h⟩, rfl⟩
  refine (hS true hm (fun _ => False) vs W (hv.mono hst) ⟨fun r v c h => (hc r v c h).mono hst (fun _ _ => rfl), fun r v c r' v' c' h _ _ b h2 => (by rw [hb r v c h] at h2; cases h2), fun b h => h.elim⟩).mono fun e W' h => ?_
  obtain ⟨nv, us, rfl, hp⟩ := h
  match us, hp.ret with
  | [u], ⟨h1, _⟩ =>
    obtain ⟨cs, h2, h3⟩ := h1
    have h2 : cs = [.bool true] := h2
    subst h2
    refine ⟨?_, hp.keep.os, hp.keep.tape, hp.keep.output, hp.keep.size, fun b hb => hp.keep.block b ⟨hb, hno b⟩⟩
    show Ending.returned u = _
    rw [h3]; rfl
end
end
section
open Go Go.RowKit
section
variable {P : Program}
def EqR {α : Type} [DecidableEq α] (P : Program) (T : TypeId) (R : Rep α) (k : Nat) : Prop :=
  ∀ (d : Nat), k ≤ d → ∀ (S : Blk) (w : World) (c c' : List Value) (x y : α), R.rel S w c x → R.rel S w c' y → ∀ w', (Op.equalIn d T (R.val c) (R.val c')).run P w' = .ok (decide (x = y)) w'
theorem EqR.num {α : Type} [DecidableEq α] {T : TypeId} {k : IntKind} {f : α → Int} (hT : P.underlying T = some (.int k)) (hf : ∀ x y, f x = f y → x = y) : EqR P T (numR k f) 1 := fun d hd S w c c' x y h h' w' => by
  have h : c = [.int k (f x)] := h
  have h' : c' = [.int k (f y)] := h'
  subst h; subst h'
  obtain ⟨n, rfl⟩ : ∃ n, d = n + 1 := ⟨d - 1, by omega⟩
  show (Op.equalIn (n + 1) T (.int k (f x)) (.int k (f y))).run P w' = _
  rw [Go.run_equalIn_int w' n T k k _ _ hT]
  congr 1
  by_cases e : x = y
  · subst e; simp
  · rw [decide_eq_false e]; exact beq_false_of_ne (fun h => e (hf _ _ h))
theorem EqR.i64 {T : TypeId} (hT : P.underlying T = some (.int .i64)) : EqR P T i64R 1 := EqR.num hT (fun _ _ h => h)
theorem EqR.i32 {T : TypeId} (hT : P.underlying T = some (.int .i32)) : EqR P T i32R 1 := EqR.num hT (fun _ _ h => h)
theorem EqR.u8 {T : TypeId} (hT : P.underlying T = some (.int .u8)) : EqR P T u8R 1 := EqR.num hT (fun _ _ h => UInt8.toNat_inj.1 (Int.ofNat.inj h))
theorem EqR.u32 {T : TypeId} (hT : P.underlying T = some (.int .u32)) : EqR P T u32R 1 := EqR.num hT (fun _ _ h => UInt32.toNat_inj.1 (Int.ofNat.inj h))
theorem EqR.u64 {T : TypeId} (hT : P.underlying T = some (.int .u64)) : EqR P T u64R 1 := EqR.num hT (fun _ _ h => UInt64.toNat_inj.1 (Int.ofNat.inj h))
theorem EqR.bool {T : TypeId} (hT : P.underlying T = some .bool) : EqR P T boolR 1 := fun d hd S w c c' x y h h' w' => by
  have h : c = [.bool x] := h
  have h' : c' = [.bool y] := h'
  subst h; subst h'
  obtain ⟨n, rfl⟩ : ∃ n, d = n + 1 := ⟨d - 1, by omega⟩
  show (Op.equalIn (n + 1) T (.bool x) (.bool y)).run P w' = _
  rw [Go.run_equalIn_bool' w' n T _ _ hT]
  cases x <;> cases y <;> rfl
theorem EqR.str {T : TypeId} (hT : P.underlying T = some .string) : EqR P T strR 1 := fun d hd S w c c' x y h h' w' => by
  obtain ⟨s, rfl, rfl⟩ := h
  obtain ⟨t, rfl, rfl⟩ := h'
  obtain ⟨n, rfl⟩ : ∃ n, d = n + 1 := ⟨d - 1, by omega⟩
  show (Op.equalIn (n + 1) T (.string s) (.string t)).run P w' = _
  rw [Go.run_equalIn_string w' n T _ _ hT, toList_data, toList_data]
  congr 1
  rw [Bool.eq_iff_iff]; simp
theorem run_part {α : Type} {R : Rep α} {S : Blk} {w : World} {T : TypeId} {x : α} {a c d : List Value} {xs : Array Value} (hx : xs.toList = a ++ c ++ d) (hr : R.rel S w c x) (hT : TyIs P T R.agg R.sz) (w' : World) : (part T xs a.length).run P w' = .ok (R.val c) w' := by
  have hlen := R.len hr
  unfold part
  unfold TyIs at hT
  unfold Rep.val
  cases ha : R.agg with
  | true =>
    rw [ha, if_pos rfl] at hT
    obtain ⟨⟨ds, h1, h2⟩, z, by_, h3⟩ := hT
    have hag : (isAgg T).run P w' = .ok true w' := by
      cases ds <;> simp only at h2 <;> simp [isAgg, run_underlying h1]
    have he : xs.extract a.length (a.length + R.sz) = c.toArray := by
      apply Array.toList_inj.1
      rw [Array.toList_extract, hx, List.extract_eq_take_drop, List.append_assoc, List.drop_left', ← hlen]
      · simp
      · rfl
    simp only [Sem.run_bind, hag, Result.andThen, if_true, run_sizeOf h3, Sem.run_pure, he]
    rfl
  | false =>
    rw [ha, if_neg (by simp)] at hT
    obtain ⟨ds, h1, h2⟩ := hT
    have hag : (isAgg T).run P w' = .ok false w' := by
      cases ds <;> simp only at h2 <;> simp [isAgg, run_underlying h1]
    rw [R.scal ha] at hlen
    match c, hlen with
    | [u], _ =>
      have he : xs[a.length]? = some u := by rw [← Array.getElem?_toList, hx]; simp
      simp only [Sem.run_bind, hag, Result.andThen, Bool.false_eq_true, if_false, he, Sem.run_pure]
      rfl
theorem EqR.items {α : Type} [DecidableEq α] {R : Rep α} {e : TypeId} {k d : Nat} (hE : EqR P e R k) (hk : k ≤ d) (hT : TyIs P e R.agg R.sz) {S : Blk} {w : World} {xs ys : Array Value} {l m : List α} (hx : relL R S w xs.toList l) (hy : relL R S w ys.toList m) (w' : World) : ∀ (is : List Nat), (∀ i ∈ is, i < l.length ∧ i < m.length) →
    (Op.eqItems d e R.sz xs ys is).run P w' = .ok (is.all fun i => decide (l[i]? = m[i]?)) w'
  | [], _ => rfl
  | i :: is, h => by
    obtain ⟨h1, h2⟩ := h i (by simp)
    obtain ⟨a, c, dd, e1, e2, e3, -⟩ := hx.split (List.getElem?_eq_getElem h1)
    obtain ⟨a', c', dd', f1, f2, f3, -⟩ := hy.split (List.getElem?_eq_getElem h2)
    have ih := EqR.items hE hk hT hx hy w' is (fun j hj => h j (by simp [hj]))
    have p1 := run_part (P := P) e1 e3 hT w'
    have p2 := run_part (P := P) f1 f3 hT w'
    rw [e2] at p1
    rw [f2] at p2
    have p3 := hE d hk S w c c' _ _ e3 f3 w'
    simp only [Op.eqItems, Sem.run_bind, p1, p2, p3, Result.andThen]
    rw [List.all_cons, List.getElem?_eq_getElem h1, List.getElem?_eq_getElem h2]
    by_cases hc : l[i] = m[i]
    · simp [hc, ih]
    · simp [hc, Sem.run_pure]
theorem EqR.arr {α : Type} [DecidableEq α] {R : Rep α} {T e : TypeId} {n k : Nat} {z : Value} {by_ : Nat} (hE : EqR P e R k) (hT : P.underlying T = some (.array n e)) (hI : TI P e z R.sz by_) (hTy : TyIs P e R.agg R.sz) : EqR P T (arrR n R) (k + 1) := fun d hd S w c c' x y h h' w' => by
  obtain ⟨d', rfl⟩ : ∃ d', d = d' + 1 := ⟨d - 1, by omega⟩
  obtain ⟨i, hi, -, hs, -⟩ := hI
  have hc : P.cellsOf e = R.sz := by unfold Program.cellsOf; rw [hi]; simpa using hs
  show (Op.equalIn (d' + 1) T (.agg c.toArray) (.agg c'.toArray)).run P w' = _
  rw [Go.run_equalIn_array w' d' c.toArray c'.toArray hT hi, hc, EqR.items hE (by omega) hTy (l := x.toList) (m := y.toList) h h' w' (List.range n) (fun i hi => by simpa using hi)]
  congr 1
  by_cases hxy : x = y
  · subst hxy; simp
  · rw [decide_eq_false hxy]
    refine Bool.eq_false_iff.2 fun h2 => hxy ?_
    apply Vector.toList_inj.1
    apply List.ext_getElem?
    intro i
    by_cases hi : i < n
    · have := List.all_eq_true.1 h2 i (by simpa using hi)
      exact of_decide_eq_true this
    · rw [List.getElem?_eq_none (by simp; omega), List.getElem?_eq_none (by simp; omega)]
def EqF {γ : Type} [DecidableEq γ] (P : Program) (fs : List Field) (o : Nat) (R : Rep γ) (k : Nat) : Prop :=
  ∀ (d : Nat), k ≤ d → ∀ (S : Blk) (w : World) (xs ys : Array Value) (x y : γ) (a a' : List Value), xs.toList = a ++ xs.toList.drop o → ys.toList = a' ++ ys.toList.drop o → a.length = o → a'.length = o → R.rel S w (xs.toList.drop o) x → R.rel S w (ys.toList.drop o) y → ∀ w', (Op.eqFields d xs ys fs).run P w' = .ok (decide (x = y)) w'
theorem EqF.nil {o : Nat} : EqF P [] o unitR 0 := fun d hd S w xs ys x y a a' _ _ _ _ h h' w' => by simp [Op.eqFields, Sem.run_pure]
theorem EqF.cons {α β : Type} [DecidableEq α] [DecidableEq β] {R : Rep α} {R2 : Rep β} {f : Field} {fs : List Field} {o k k2 : Nat} (h1 : EqR P f.type R k) (hT : TyIs P f.type R.agg R.sz) (ho : f.offset = o) (hn : (f.name == "_") = false) (h2 : EqF P fs (o + R.sz) R2 k2) : EqF P (f :: fs) o (prodR R R2) (max k k2) := fun d hd S w xs ys x y a a' hx hy ha ha' h h' w' => by
  obtain ⟨c, r, e1, e2, e3⟩ := h
  obtain ⟨c', r', f1, f2, f3⟩ := h'
  have hlc := R.len e2
  have hlc' := R.len f2
  have hdx : xs.toList.drop (o + R.sz) = r := by rw [← List.drop_drop, e1, ← hlc]; simp
  have hdy : ys.toList.drop (o + R.sz) = r' := by rw [← List.drop_drop, f1, ← hlc']; simp
  have p1 := run_part (P := P) (xs := xs) (a := a) (c := c) (d := r) (by rw [List.append_assoc, ← e1]; exact hx) e2 hT w'
  have p2 := run_part (P := P) (xs := ys) (a := a') (c := c') (d := r') (by rw [List.append_assoc, ← f1]; exact hy) f2 hT w'
  rw [ha] at p1
  rw [ha'] at p2
  have p3 := h1 d (by omega) S w c c' x.1 y.1 e2 f2 w'
  have ih := h2 d (by omega) S w xs ys x.2 y.2 (a ++ c) (a' ++ c') (by rw [hdx, List.append_assoc, ← e1]; exact hx) (by rw [hdy, List.append_assoc, ← f1]; exact hy) (by simp [ha, hlc]) (by simp [ha', hlc']) (by rw [hdx]; exact e3) (by rw [hdy]; exact f3) w'
  have hne : f.name ≠ "_" := by simpa using hn
  simp only [Op.eqFields, if_pos hne, Sem.run_bind, ho, p1, p2, p3, Result.andThen]
  by_cases hc : x.1 = y.1
  · simp only [hc, decide_true, Bool.not_true, Bool.false_eq_true, if_false, ih]
    congr 1
    rw [decide_eq_decide]
    exact ⟨fun h => Prod.ext hc h, fun h => by rw [h]⟩
  · have hxy : x ≠ y := fun h => hc (by rw [h])
    simp [hc, hxy, Sem.run_pure]
theorem EqR.struct {β γ : Type} [DecidableEq β] [DecidableEq γ] {R : Rep γ} {g : β → γ} {T : TypeId} {fs : Array Field} {k : Nat} (hF : EqF P fs.toList 0 R k) (hT : P.underlying T = some (.struct fs)) (hp : P.stoodInHeld T = false) (hg : ∀ x y, g x = g y → x = y) (hag : R.agg = true) : EqR P T (viaR g R) (k + 1) := fun d hd S w c c' x y h h' w' => by
  obtain ⟨d', rfl⟩ : ∃ d', d = d' + 1 := ⟨d - 1, by omega⟩
  have hfs : P.fieldsOf T = fs := by simp [Program.fieldsOf, hT]
  have e1 : (viaR g R).val c = .agg c.toArray := by simp [Rep.val, viaR, hag]
  have e2 : (viaR g R).val c' = .agg c'.toArray := by simp [Rep.val, viaR, hag]
  rw [e1, e2, Go.run_equalIn_struct w' d' T _ _ (by rw [hfs]; exact hT) hp, hfs]
  rw [hF d' (by omega) S w c.toArray c'.toArray (g x) (g y) [] [] (by simp) (by simp) rfl rfl (by simpa using (show R.rel S w c (g x) from h)) (by simpa using (show R.rel S w c' (g y) from h')) w']
  congr 1
  rw [decide_eq_decide]
  exact ⟨fun h => hg _ _ h, fun h => by rw [h]⟩
end
section
variable {C : World → World → Prop} {P : Program} {Γ : Ctx} {l : Slots} {res : Res} {d : Tmp} {ty : TypeId} {pos : String} {after : Array Edge} {g : Option (Nat × Bool)}
theorem eqA {α : Type} [DecidableEq α] {R : Rep α} {T T' : TypeId} {x y : Operand} {a b : α} {k : Nat} (hx : opE l x = some (.rd R a)) (hy : opE l y = some (.rd R b)) (hE : EqR P T R k) (hk : Nat.ble k 10000 = true) (hag : R.agg = true) (hg : P.eqGuardType P.depth T = false) : Run C P Γ l res ⟨some d, .binOp .eql T x y T', ty, pos, after, g⟩ (.rd boolR (decide (a = b))) := fun f w ha => by
  obtain ⟨c, h1, h2⟩ := ha.vl hx
  obtain ⟨c', h3, h4⟩ := ha.vl hy
  have e1 : f.eval x = .agg c.toArray := by rw [h2]; simp [Rep.val, hag]
  have e2 : f.eval y = .agg c'.toArray := by rw [h4]; simp [Rep.val, hag]
  refine ⟨_, fun w' _ => exec_bin (v := .bool (decide (a = b))) ?_ ?_, rd_bool'⟩
  · rw [e1, e2]; exact Go.run_eqGuard_agg w' .eql T x y _ _ hg
  · have := hE 10000 (Nat.le_of_ble_eq_true hk) _ w c c' a b h1 h3 w'
    rw [show R.val c = .agg c.toArray by simp [Rep.val, hag], show R.val c' = .agg c'.toArray by simp [Rep.val, hag]] at this
    rw [e1, e2, Go.run_eql_struct, this]; rfl
theorem neA {α : Type} [DecidableEq α] {R : Rep α} {T T' : TypeId} {x y : Operand} {a b : α} {k : Nat} (hx : opE l x = some (.rd R a)) (hy : opE l y = some (.rd R b)) (hE : EqR P T R k) (hk : Nat.ble k 10000 = true) (hag : R.agg = true) (hg : P.eqGuardType P.depth T = false) : Run C P Γ l res ⟨some d, .binOp .neq T x y T', ty, pos, after, g⟩ (.rd boolR (!decide (a = b))) := fun f w ha => by
  obtain ⟨c, h1, h2⟩ := ha.vl hx
  obtain ⟨c', h3, h4⟩ := ha.vl hy
  have e1 : f.eval x = .agg c.toArray := by rw [h2]; simp [Rep.val, hag]
  have e2 : f.eval y = .agg c'.toArray := by rw [h4]; simp [Rep.val, hag]
  refine ⟨_, fun w' _ => exec_bin (v := .bool (!decide (a = b))) ?_ ?_, rd_bool'⟩
  · rw [e1, e2]; exact Go.run_eqGuard_agg w' .neq T x y _ _ hg
  · have := hE 10000 (Nat.le_of_ble_eq_true hk) _ w c c' a b h1 h3 w'
    rw [show R.val c = .agg c.toArray by simp [Rep.val, hag], show R.val c' = .agg c'.toArray by simp [Rep.val, hag]] at this
    rw [e1, e2, Go.run_neq_struct, this]; rfl
end
end
section
open Go Go.RowKit
section
variable {κ β : Type} [DecidableEq κ]
def mget : List (κ × β) → κ → Option β
  | [], _ => none
  | p :: m, k => if k = p.1 then some p.2 else mget m k
def mput : List (κ × β) → κ → β → List (κ × β)
  | [], k, v => [(k, v)]
  | p :: m, k, v => if k = p.1 then (p.1, v) :: m else p :: mput m k v
def mdel : List (κ × β) → κ → List (κ × β)
  | [], _ => []
  | p :: m, k => if k = p.1 then m else p :: mdel m k
end
structure KeyR {κ : Type} [DecidableEq κ] (P : Program) (T : TypeId) (R : Rep κ) (k : Nat) : Prop where
  one : ∀ {S w S' w' cs cs' x}, R.rel S w cs x → R.rel S' w' cs' x → cs = cs'
  chk : ∀ {S w cs x}, R.rel S w cs x → ∀ d, k ≤ d → ∀ e w', (Instr.checkKey e d T (R.val cs)).run P w' = .ok () w'
  bits : ∀ {S w cs x}, R.rel S w cs x → ∀ d, k ≤ d → Instr.sameBits d (R.val cs) (R.val cs) = true
  eq : EqR P T R k
  deep : Nat.ble k 10000 = true
  find : ∃ de, P.underlying T = some de ∧ ((∀ v v', Instr.sameNow de v v' = none) ∨ ∀ {S w cs cs' x y}, R.rel S w cs x → R.rel S w cs' y → Instr.sameNow de (R.val cs) (R.val cs') = some (decide (x = y)))
section
variable {P : Program}
theorem KeyR.num {α : Type} [DecidableEq α] {T : TypeId} {k : IntKind} {f : α → Int} (hT : P.underlying T = some (.int k)) (hf : ∀ x y, f x = f y → x = y) : KeyR P T (numR k f) 1 where
  one h h' := by
    have h : _ = [Value.int k _] := h
    have h' : _ = [Value.int k _] := h'
    rw [h, h']
  chk h d hd e w' := by
    have h : _ = [Value.int k _] := h
    subst h
    obtain ⟨n, rfl⟩ : ∃ n, d = n + 1 := ⟨d - 1, by omega⟩
    show (Instr.checkKey e (n + 1) T (.int k _)).run P w' = _
    simp [Instr.checkKey, run_underlying hT]
  bits h d hd := by
    have h : _ = [Value.int k _] := h
    subst h
    show Instr.sameBits d (.int k _) (.int k _) = true
    cases d <;> simp [Instr.sameBits]
  eq := EqR.num hT hf
  deep := rfl
  find := ⟨_, hT, .inr fun {S w cs cs' x y} h h' => by
    have h : _ = [Value.int k _] := h
    have h' : _ = [Value.int k _] := h'
    subst h; subst h'
    show Instr.sameNow (.int k) (.int k (f x)) (.int k (f y)) = _
    simp only [Instr.sameNow, if_true, Option.some.injEq]
    by_cases e : x = y
    · subst e; simp
    · rw [decide_eq_false e]; exact beq_false_of_ne (fun h => e (hf _ _ h))⟩
theorem KeyR.i64 {T : TypeId} (hT : P.underlying T = some (.int .i64)) : KeyR P T i64R 1 := KeyR.num hT (fun _ _ h => h)
theorem KeyR.u8 {T : TypeId} (hT : P.underlying T = some (.int .u8)) : KeyR P T u8R 1 := KeyR.num hT (fun _ _ h => UInt8.toNat_inj.1 (Int.ofNat.inj h))
theorem KeyR.u32 {T : TypeId} (hT : P.underlying T = some (.int .u32)) : KeyR P T u32R 1 := KeyR.num hT (fun _ _ h => UInt32.toNat_inj.1 (Int.ofNat.inj h))
theorem KeyR.u64 {T : TypeId} (hT : P.underlying T = some (.int .u64)) : KeyR P T u64R 1 := KeyR.num hT (fun _ _ h => UInt64.toNat_inj.1 (Int.ofNat.inj h))
theorem str_one {s t : ByteArray} (h : s.data.toList = t.data.toList) : s = t := by
  cases s; cases t; simp only [ByteArray.mk.injEq]; exact Array.toList_inj.1 h
theorem KeyR.str {T : TypeId} (hT : P.underlying T = some .string) : KeyR P T strR 1 where
  one h h' := by
    obtain ⟨s, rfl, rfl⟩ := h
    obtain ⟨t, rfl, h2⟩ := h'
    rw [str_one h2]
  chk h d hd e w' := by
    obtain ⟨s, rfl, rfl⟩ := h
    obtain ⟨n, rfl⟩ : ∃ n, d = n + 1 := ⟨d - 1, by omega⟩
    show (Instr.checkKey e (n + 1) T (.string s)).run P w' = _
    simp [Instr.checkKey, run_underlying hT]
  bits h d hd := by
    obtain ⟨s, rfl, rfl⟩ := h
    show Instr.sameBits d (.string s) (.string s) = true
    have h : (s == s) = true := by show (s.data == s.data) = true; simp
    cases d <;> simp only [Instr.sameBits, h]
  eq := EqR.str hT
  deep := rfl
  find := ⟨_, hT, .inr fun {S w cs cs' x y} h h' => by
    obtain ⟨s, rfl, rfl⟩ := h
    obtain ⟨t, rfl, rfl⟩ := h'
    show Instr.sameNow .string (.string s) (.string t) = _
    simp only [Instr.sameNow, Option.some.injEq]
    show (s.data == t.data) = _
    rw [Bool.eq_iff_iff, decide_eq_true_iff, beq_iff_eq]
    exact ⟨fun h => by rw [h], fun h => Array.toList_inj.1 h⟩⟩
theorem relL.one' {α : Type} {R : Rep α} (h1 : ∀ {S w S' w' cs cs' x}, R.rel S w cs x → R.rel S' w' cs' x → cs = cs') {S w S' w'} : ∀ {l : List α} {cs cs'}, relL R S w cs l → relL R S' w' cs' l → cs = cs'
  | [], cs, cs', h, h' => by simp only [relL] at h h'; rw [h, h']
  | x :: l, cs, cs', h, h' => by
    obtain ⟨c, d, rfl, h2, h3⟩ := h
    obtain ⟨c', d', rfl, h2', h3'⟩ := h'
    rw [h1 h2 h2', relL.one' h1 h3 h3']
theorem relL.bits {α : Type} [DecidableEq α] {R : Rep α} {T : TypeId} (hK : KeyR P T R 1) (hag : R.agg = false) {S w} : ∀ {l : List α} {cs}, relL R S w cs l → ∀ u ∈ cs, ∀ d, 1 ≤ d → Instr.sameBits d u u = true
  | [], cs, h, u, hu => by simp only [relL] at h; subst h; simp at hu
  | x :: l, cs, h, u, hu => by
    obtain ⟨c, d, rfl, h2, h3⟩ := h
    rcases List.mem_append.1 hu with hu | hu
    · have hl := R.len h2
      rw [R.scal hag] at hl
      match c, hl with
      | [v], _ =>
        simp only [List.mem_singleton] at hu
        subst hu
        intro d hd
        have := hK.bits h2 d hd
        simpa [Rep.val, hag] using this
    · exact relL.bits hK hag h3 u hu
theorem KeyR.arr {α : Type} [DecidableEq α] {R : Rep α} {T e : TypeId} {n : Nat} {z : Value} {by_ : Nat} (hK : KeyR P e R 1) (hT : P.underlying T = some (.array n e)) (hI : TI P e z R.sz by_) (hTy : TyIs P e R.agg R.sz) (hag : R.agg = false) : KeyR P T (arrR n R) 2 where
  one h h' := relL.one' hK.one h h'
  chk {S w cs x} h d hd em w' := by
    obtain ⟨d', rfl⟩ : ∃ d', d = d' + 1 := ⟨d - 1, by omega⟩
    show (Instr.checkKey em (d' + 1) T (.agg cs.toArray)).run P w' = _
    rw [Instr.checkKey]
    simp only [Sem.run_bind, run_underlying hT, Result.andThen_ok]
    simp only [Std.Legacy.Range.forIn_eq_forIn_range', Std.Legacy.Range.size, Nat.sub_zero, Nat.add_one_sub_one, Nat.div_one]
    have each : ∀ i ∈ List.range' 0 n, i < x.toList.length := fun i hi => by simpa using hi
    generalize List.range' 0 n = is at each
    induction is with
    | nil => simp
    | cons j is ih =>
      have hj := each j (by simp)
      obtain ⟨a, c, dd, e1, e2, e3, -⟩ := relL.split h (List.getElem?_eq_getElem hj)
      have p1 := run_part (P := P) (xs := cs.toArray) (by simpa using e1) e3 hTy w'
      rw [e2] at p1
      have p2 := hK.chk e3 d' (by omega) em w'
      simp only [List.forIn_cons, Sem.run_bind, run_sizeOf hI, Result.andThen_ok, p1, p2, Sem.run_pure]
      exact ih (fun y hy => each y (by simp [hy]))
  bits {S w cs x} h d hd := by
    obtain ⟨d', rfl⟩ : ∃ d', d = d' + 1 := ⟨d - 1, by omega⟩
    show Instr.sameBits (d' + 1) (.agg cs.toArray) (.agg cs.toArray) = true
    have hb := relL.bits hK hag h
    simp only [Instr.sameBits, beq_self_eq_true, Bool.true_and, List.all_eq_true]
    intro p hp
    obtain ⟨u, v⟩ := p
    have huv : u = v ∧ u ∈ cs := by
      have : ∀ (l : List Value) (u v : Value), (u, v) ∈ l.zip l → u = v ∧ u ∈ l := by
        intro l
        induction l with
        | nil => intro u v h; simp at h
        | cons y l ih =>
          intro u v h
          simp only [List.zip_cons_cons, List.mem_cons, Prod.mk.injEq] at h
          rcases h with ⟨rfl, rfl⟩ | h
          · simp
          · obtain ⟨h1, h2⟩ := ih u v h
            exact ⟨h1, by simp [h2]⟩
      exact this _ _ _ (by simpa using hp)
    obtain ⟨rfl, hu⟩ := huv
    exact hb u hu d' (by omega)
  eq := EqR.arr hK.eq hT hI hTy
  deep := rfl
  find := ⟨_, hT, .inl fun v v' => by cases v <;> cases v' <;> rfl⟩
end
def relM {κ β : Type} (RK : Rep κ) (RV : Rep β) (S : Blk) (w : World) : List MapEntry → List (κ × β) → Prop
  | [], [] => True
  | e :: es, p :: l => (RK.vrel S w e.key p.1 ∧ RV.vrel S w e.val p.2) ∧ relM RK RV S w es l
  | _, _ => False
theorem relM.mono {κ β : Type} {RK : Rep κ} {RV : Rep β} {S S' w w'} (k : Stay S S' w w') : ∀ {es l}, relM RK RV S w es l → relM RK RV S' w' es l
  | [], [], _ => trivial
  | e :: es, p :: l, h => ⟨⟨h.1.1.mono k, h.1.2.mono k⟩, relM.mono k h.2⟩
  | [], _ :: _, h => h.elim
  | _ :: _, [], h => h.elim
theorem relM.push {κ β : Type} {RK : Rep κ} {RV : Rep β} {S w} : ∀ {es : List MapEntry} {m : List (κ × β)} {e : MapEntry} {k : κ} {x : β}, relM RK RV S w es m → RK.vrel S w e.key k → RV.vrel S w e.val x → relM RK RV S w (es ++ [e]) (m ++ [(k, x)])
  | [], [], e, k, x, _, h1, h2 => ⟨⟨h1, h2⟩, trivial⟩
  | e' :: es, p :: m, e, k, x, h, h1, h2 => ⟨h.1, relM.push h.2 h1 h2⟩
  | [], _ :: _, _, _, _, h, _, _ => h.elim
  | _ :: _, [], _, _, _, h, _, _ => h.elim
theorem relM.size {κ β : Type} {RK : Rep κ} {RV : Rep β} {S w} : ∀ {es : List MapEntry} {m : List (κ × β)}, relM RK RV S w es m → es.length = m.length
  | [], [], _ => rfl
  | _ :: _, _ :: _, h => by simp [h.2.size]
  | [], _ :: _, h => h.elim
  | _ :: _, [], h => h.elim
def Born (es : List MapEntry) (clock : Nat) : Prop := (es.map (·.born)).Nodup ∧ ∀ e ∈ es, e.born < clock
theorem Born.push {es : List MapEntry} {c : Nat} {e : MapEntry} (h : Born es c) (he : e.born = c) : Born (es ++ [e]) (c + 1) := by
  refine ⟨?_, fun x hx => ?_⟩
  · rw [List.map_append, List.nodup_append]
    refine ⟨h.1, by simp, fun a ha b hb => ?_⟩
    simp only [List.mem_map] at ha
    obtain ⟨x, hx, rfl⟩ := ha
    simp only [List.map_cons, List.map_nil, List.mem_singleton] at hb
    have := h.2 x hx
    omega
  · rcases List.mem_append.1 hx with hx | hx
    · have := h.2 x hx; omega
    · simp only [List.mem_singleton] at hx; subst hx; omega
theorem Born.modify {es : List MapEntry} {c j : Nat} {f : MapEntry → MapEntry} (h : Born es c) (hf : ∀ e, (f e).born = e.born) : Born (es.modify j f) c := by
  have e1 : (es.modify j f).map (·.born) = es.map (·.born) := by
    apply List.ext_getElem?
    intro i
    simp only [List.getElem?_map, List.getElem?_modify]
    cases es[i]? with
    | none => rfl
    | some x => by_cases h : j = i <;> simp [h, hf]
  refine ⟨by rw [e1]; exact h.1, fun x hx => ?_⟩
  have : x.born ∈ (es.modify j f).map (·.born) := List.mem_map.2 ⟨x, hx, rfl⟩
  rw [e1] at this
  obtain ⟨y, hy, e2⟩ := List.mem_map.1 this
  have := h.2 y hy
  omega
theorem Born.erase {es : List MapEntry} {c j : Nat} (h : Born es c) : Born (es.eraseIdx j) c := by
  have hs : (es.eraseIdx j).Sublist es := List.eraseIdx_sublist _ _
  exact ⟨h.1.sublist (hs.map _), fun x hx => h.2 x (hs.subset hx)⟩
def mapR {κ β : Type} (RK : Rep κ) (RV : Rep β) : Rep (List (κ × β)) where
  sz := 1
  agg := false
  rel S w cs m := ∃ b es clock, cs = [.map (some b)] ∧ S b ∧ w.heap[b]? = some (.map es clock) ∧ relM RK RV S w es.toList m ∧ Born es.toList clock
  len h := by obtain ⟨b, es, clock, rfl, _⟩ := h; rfl
  one h := by obtain ⟨b, es, clock, rfl, _⟩ := h; intro u hu; simp at hu; subst hu; rfl
  scal _ := rfl
  mono k h := by
    obtain ⟨b, es, clock, h1, h2, h3, h4, h5⟩ := h
    exact ⟨b, es, clock, h1, (k b h2).1, (k b h2).2.trans h3, h4.mono k, h5⟩
def Cont.map {κ β : Type} (RK : Rep κ) (RV : Rep β) (m : List (κ × β)) : Cont where
  nil _ _ _ := False
  nilm _ h := h
  nilb h := h.elim
  rel S w v o := ∃ b es clock, v = .map (some b) ∧ o = .map es clock ∧ relM RK RV S w es.toList m ∧ Born es.toList clock
  mono k h := by obtain ⟨b, es, clock, h1, h2, h3, h4⟩ := h; exact ⟨b, es, clock, h1, h2, h3.mono k, h4⟩
theorem map_owns {κ β : Type} {RK : Rep κ} {RV : Rep β} {m S w v} (h : (Cont.map RK RV m).holds S w v) : ∃ b es clock, v = .map (some b) ∧ w.heap[b]? = some (.map es clock) ∧ relM RK RV S w es.toList m ∧ Born es.toList clock := by
  rcases h with h | ⟨b, o, h1, h2, b', es, clock, rfl, rfl, h3, h4⟩
  · exact h.elim
  · simp only [rblk, Option.some.injEq] at h1
    subst h1
    exact ⟨_, es, clock, rfl, h2, h3, h4⟩
theorem owns_map {κ β : Type} {RK : Rep κ} {RV : Rep β} {m S w} {b : Nat} {es : Array MapEntry} {clock : Nat} (h1 : w.heap[b]? = some (.map es clock)) (h2 : relM RK RV S w es.toList m) (h3 : Born es.toList clock) : (Cont.map RK RV m).holds S w (.map (some b)) :=
  .inr ⟨b, _, rfl, h1, b, es, clock, rfl, rfl, h2, h3⟩
section
variable {P : Program} {κ β : Type} [DecidableEq κ] {RK : Rep κ} {RV : Rep β} {K : TypeId} {n : Nat}
def fnd (k : κ) : List MapEntry → List (κ × β) → Nat → Option (Nat × Value)
  | e :: es, p :: m, i => if k = p.1 then some (i, e.val) else fnd k es m (i + 1)
  | _, _, _ => none
theorem run_asking (hK : KeyR P K RK n) {S : Blk} {w : World} {k : κ} {v : Value} (hv : RK.vrel S w v k) (w' : World) : ∀ {es : List MapEntry} {m : List (κ × β)} (i : Nat), relM RK RV S w es m → (Instr.findAsking K v es i).run P w' = .ok (fnd k es m i) w'
  | [], [], i, _ => by simp [Instr.findAsking, fnd]
  | e :: es, p :: m, i, h => by
    obtain ⟨cs, h1, rfl⟩ := hv
    obtain ⟨cs', h2, h3⟩ := h.1.1
    have hq := hK.eq 10000 (Nat.le_of_ble_eq_true hK.deep) S w cs cs' k p.1 h1 h2 w'
    have hq : (Op.equal K (RK.val cs) e.key).run P w' = .ok (decide (k = p.1)) w' := by rw [h3]; exact hq
    simp only [Instr.findAsking, Sem.run_bind, hq, Result.andThen, fnd]
    by_cases hk : k = p.1
    · simp [hk]
    · simp [hk, run_asking hK ⟨cs, h1, rfl⟩ w' (i + 1) h.2]
  | [], _ :: _, i, h => h.elim
  | _ :: _, [], i, h => h.elim
theorem now_some {de : TypeDesc} {S : Blk} {w : World} (hs : ∀ {S w cs cs' x y}, RK.rel S w cs x → RK.rel S w cs' y → Instr.sameNow de (RK.val cs) (RK.val cs') = some (decide (x = y))) {k : κ} {v : Value} (hv : RK.vrel S w v k) : ∀ {es : List MapEntry} {m : List (κ × β)} (i : Nat), relM RK RV S w es m → Instr.findNow de v es i = some (fnd k es m i)
  | [], [], i, _ => by simp [Instr.findNow, fnd]
  | e :: es, p :: m, i, h => by
    obtain ⟨cs, h1, rfl⟩ := hv
    obtain ⟨cs', h2, h3⟩ := h.1.1
    have hq := hs h1 h2
    rw [← h3] at hq
    simp only [Instr.findNow, hq, fnd]
    by_cases hk : k = p.1
    · simp [hk]
    · simp [hk, now_some hs ⟨cs, h1, rfl⟩ (i + 1) h.2]
  | [], _ :: _, i, h => h.elim
  | _ :: _, [], i, h => h.elim
theorem run_find (hK : KeyR P K RK n) {S : Blk} {w : World} {k : κ} {v : Value} (hv : RK.vrel S w v k) (w' : World) {es : List MapEntry} {m : List (κ × β)} (h : relM RK RV S w es m) : (Instr.findKey K v es).run P w' = .ok (fnd k es m 0) w' := by
  obtain ⟨de, h1, h2⟩ := hK.find
  unfold Instr.findKey
  simp only [Sem.run_bind, run_underlying h1, Result.andThen]
  rcases h2 with h2 | h2
  · match es, m, h with
    | [], [], _ => simp [Instr.findNow, fnd]
    | e :: es, p :: m, h =>
      have : Instr.findNow de v (e :: es) 0 = none := by simp [Instr.findNow, h2]
      simp only [this]
      exact run_asking hK hv w' 0 h
  · rw [now_some h2 hv 0 h]; rfl
theorem fnd_none {k : κ} : ∀ {es : List MapEntry} {m : List (κ × β)} {i : Nat} {S w}, relM RK RV S w es m → fnd k es m i = none → mget m k = none ∧ (∀ x, mput m k x = m ++ [(k, x)]) ∧ mdel m k = m
  | [], [], i, S, w, _, _ => ⟨rfl, fun _ => rfl, rfl⟩
  | e :: es, p :: m, i, S, w, h, h0 => by
    simp only [fnd] at h0
    split at h0
    · cases h0
    · rename_i hk
      obtain ⟨h1, h2, h3⟩ := fnd_none h.2 h0
      refine ⟨by simp [mget, hk, h1], fun x => by simp [mput, hk, h2], by simp [mdel, hk, h3]⟩
  | [], _ :: _, i, _, _, h, _ => h.elim
  | _ :: _, [], i, _, _, h, _ => h.elim
theorem fnd_some {k : κ} : ∀ {es : List MapEntry} {m : List (κ × β)} {i j : Nat} {u : Value} {S w}, relM RK RV S w es m → fnd k es m i = some (j, u) →
    i ≤ j ∧ ∃ e x, es[j - i]? = some e ∧ e.val = u ∧ mget m k = some x ∧ RV.vrel S w e.val x ∧ RK.vrel S w e.key k ∧
      (∀ S' w' v y, Stay S S' w w' → RV.vrel S' w' v y → relM RK RV S' w' (es.modify (j - i) fun e => { e with val := v }) (mput m k y)) ∧
      relM RK RV S w (es.eraseIdx (j - i)) (mdel m k)
  | e :: es, p :: m, i, j, u, S, w, h, h0 => by
    simp only [fnd] at h0
    split at h0
    · rename_i hk
      simp only [Option.some.injEq, Prod.mk.injEq] at h0
      obtain ⟨rfl, rfl⟩ := h0
      refine ⟨Nat.le_refl _, e, p.2, by simp, rfl, by simp [mget, hk], h.1.2, by rw [hk]; exact h.1.1, fun S' w' v y st hv => ?_, ?_⟩
      · simp only [Nat.sub_self, List.modify_zero_cons, mput, hk, if_true]
        exact ⟨⟨h.1.1.mono st, hv⟩, h.2.mono st⟩
      · simp only [Nat.sub_self, List.eraseIdx_cons_zero, mdel, hk, if_true]
        exact h.2
    · rename_i hk
      obtain ⟨h1, e', x, h2, h3, h4, h5, h6, h7, h8⟩ := fnd_some h.2 h0
      have hj : j - i = (j - (i + 1)) + 1 := by omega
      refine ⟨by omega, e', x, by rw [hj]; simpa using h2, h3, by simp [mget, hk, h4], h5, h6, fun S' w' v y st hv => ?_, ?_⟩
      · rw [hj, List.modify_succ_cons]
        simp only [mput, hk, if_false]
        exact ⟨⟨h.1.1.mono st, h.1.2.mono st⟩, h7 S' w' v y st hv⟩
      · rw [hj, List.eraseIdx_cons_succ]
        simp only [mdel, hk, if_false]
        exact ⟨h.1, h8⟩
  | [], [], i, j, u, _, _, _, h0 => by cases h0
  | [], _ :: _, i, j, u, _, _, h, _ => h.elim
  | _ :: _, [], i, j, u, _, _, h, _ => h.elim
end
section
variable {C : World → World → Prop} {ρ : Type} {P : Program} {Γ : Ctx} {l : Slots} {res : Res} {m : Option ρ} {os rest : List Oper} {N : ρ → Exit → Act → World → Prop}
  {d : Tmp} {ty : TypeId} {pos : String} {after : Array Edge} {g : Option (Nat × Bool)} {κ β : Type}
theorem setObj_gr {w : World} {b : Nat} {o : Obj} : w.grownBy { w with heap := w.heap.setIfInBounds b o } (some b) := by
  refine ⟨rfl, rfl, rfl, by simp, fun k hk hne => ?_⟩
  have hne : k ≠ b := fun e => hne (by rw [e])
  simp only []
  rw [Array.getElem?_setIfInBounds_ne (fun e => hne e.symm)]
theorem mkm (RK : Rep κ) (RV : Rep β) (r : Nat) {hint : Option Operand} {T K V : TypeId} (hh : hint = none ∨ ∃ y n, hint = some y ∧ opE l y = some (.rd i64R n)) (hT : P.underlying T = some (.map K V)) : Eff P Γ l res ⟨some d, .makeMap T hint, ty, pos, after, g⟩ r (fun v => (v, .map RK RV [])) := fun a w ha => by
  have hrun : (execOp a.eval ⟨some d, .makeMap T hint, ty, pos, after, g⟩).run P w = .ok (.value (.map (some w.heap.size))) (w.alloc (.map #[] 0)) := by
    rcases hh with rfl | ⟨y, n, rfl, hy⟩
    · rfl
    · have e1 := rd_num (ha.vl hy)
      have e2 : (Instr.makeMap T (some (a.eval y))).run P w = .ok (.map (some w.heap.size)) (w.alloc (.map #[] 0)) := by
        rw [e1]
        unfold Instr.makeMap
        simp only [Sem.run_bind, run_underlying hT, Result.andThen]
        rfl
      simp [execOp, e2]
  exact ⟨_, _, hrun, ha.upd r (c := .map RK RV []) (v := .map (some w.heap.size)) (new_gr w _) (by simp) (fun bb hbb => .inr (by simp [rblk] at hbb; omega)) (fun S' k' => owns_map (es := #[]) (clock := 0) (heap_alloc_new _ _) trivial ⟨by simp, by simp⟩), rfl, none, new_gr w _, by simp⟩
inductive Mp {κ β : Type} (RK : Rep κ) (RV : Rep β) (res : Res) (ws : List Nat) : Ent → List (κ × β) → Prop
  | rd {m : List (κ × β)} : Mp RK RV res ws (.rd (mapR RK RV) m) m
  | own {v : Value} {m : List (κ × β)} (r : Nat) (h : lr res r = some (v, .map RK RV m)) (hw : ws.contains r = false) : Mp RK RV res ws (.val v) m
theorem Mp.get {ws : List Nat} [LC C res ws] {RK : Rep κ} {RV : Rep β} {E : Ent} {mm : List (κ × β)} (h : Mp RK RV res ws E mm) {a : Act} {w : World} (ha : Sta Γ l res a w) {v : Value} (hv : E.holds (Shr Γ.H res w) w v) :
    ∃ b es clock, v = .map (some b) ∧ relM RK RV (Shr Γ.H res w) w es.toList mm ∧ ∀ w', C w w' → w'.heap[b]? = some (.map es clock) := by
  cases h with
  | rd =>
    obtain ⟨cs, ⟨b, es, clock, h1, h2, h3, h4, h5⟩, h6⟩ := hv
    subst h1
    exact ⟨b, es, clock, h6, h4, fun w' hw' => (CW.shr hw' h2).trans h3⟩
  | own r h hw =>
    obtain ⟨rfl, -⟩ := hv
    obtain ⟨b, es, clock, rfl, h1, h2, h3⟩ := map_owns (ha.conts r _ _ h)
    exact ⟨b, es, clock, rfl, h2, fun w' hw' => (CW.at hw' ha h rfl hw).trans h1⟩
variable {ro : Option Nat} {A : Asn} {Q : ρ → Exit → Act → World → Prop} {c : Code} {e : Exit} {l0 : Slots} {res0 : Res} {ws : List Nat} {fuel : Nat} {listed : Array Bool}
theorem EsV {r : Nat} {op : Op} {x : Value × Cont} (he : ∀ a w, Sta Γ l res a w → ∃ w' u, (execOp a.eval ⟨none, op, ty, pos, after, none⟩).run P w = .ok (.value u) w' ∧ Sta Γ l ((r, some x) :: res) a w')
    (k : GL P os (Sta Γ l ((r, some x) :: res)) rest N m) : GL P os (Sta Γ l res) (⟨none, op, ty, pos, after, none⟩ :: rest) N m := fun a w ha ρ hm => by
  obtain ⟨w', u, h1, h2⟩ := he a w ha
  exact st (g_none rfl) h1 (k _ w' h2 ρ hm)
variable [DecidableEq κ]
theorem mup' {RK : Rep κ} {RV : Rep β} {mm : List (κ × β)} {x y z : Operand} {v : Value} {k : κ} {b : β} {T K V : TypeId} {n : Nat} {a : Act} {w : World} (ha : Sta Γ l res a w) (r : Nat) (hx : opE l x = some (.val v)) (hr : lr res r = some (v, .map RK RV mm)) (hy : opE l y = some (.rd RK k)) (hz : opE l z = some (.rd RV b)) (hK : KeyR P K RK n) (hT : P.underlying T = some (.map K V)) :
    ∃ w', (Instr.mapUpdate T (a.eval x) (a.eval y) (a.eval z)).run P w = .ok () w' ∧ (Sta Γ l ((r, some (v, .map RK RV (mput mm k b))) :: res) a w' ∧ Stay (Shr Γ.H res w) (Shr Γ.H ((r, some (v, .map RK RV (mput mm k b))) :: res) w') w w') ∧ Grew res r w w' := by
  have e1 := (ha.vl hx).1
  obtain ⟨bk, es, clock, rfl, h1, h2, h3⟩ := map_owns (ha.conts r v _ hr)
  have hy1 := ha.vl hy
  have hz1 := ha.vl hz
  obtain ⟨cs, hk1, hk2⟩ := hy1
  have hck := hK.chk hk1 10000 (Nat.le_of_ble_eq_true hK.deep) false w
  rw [← hk2] at hck
  have hf := run_find hK ⟨cs, hk1, hk2⟩ w h2
  have hbi := hK.bits hk1 10000 (Nat.le_of_ble_eq_true hK.deep)
  rw [← hk2] at hbi
  have hlt : bk < w.heap.size := (Array.getElem?_eq_some_iff.1 h1).1
  cases hq : fnd k es.toList mm 0 with
  | none =>
    obtain ⟨-, q2, -⟩ := fnd_none h2 hq
    refine ⟨{ w with heap := w.heap.setIfInBounds bk (.map (es.push { key := a.eval y, val := a.eval z, born := clock }) (clock + 1)) }, ?_, ?_, some bk, setObj_gr, fun bb hbb => ⟨_, _, hr, by cases hbb; rfl⟩⟩
    · rw [e1]
      unfold Instr.mapUpdate
      simp only [Sem.run_bind, run_underlying hT, Result.andThen, MapKept.run_getObj_map h1, hck, hf, hq, MapKept.run_setObj_map _ h1]
    · refine ha.upd r (v := .map (some bk)) setObj_gr (fun bb hbb => ⟨_, _, hr, by cases hbb; rfl⟩) (fun bb hbb => .inl ⟨_, _, hr, hbb⟩) (fun S' k' => owns_map (es := es.push { key := a.eval y, val := a.eval z, born := clock }) (clock := clock + 1) (by simp [hlt]) ?_ ?_)
      · rw [q2 b, Array.toList_push]
        exact (h2.mono k').push (Rep.vrel.mono ⟨cs, hk1, hk2⟩ k') (Rep.vrel.mono hz1 k')
      · rw [Array.toList_push]; exact h3.push rfl
  | some ju =>
    obtain ⟨j, u⟩ := ju
    obtain ⟨-, e, x0, q1, q2, q3, q4, q5, q6, q7⟩ := fnd_some h2 hq
    simp only [Nat.sub_zero] at q1 q6
    have hj : es[j]? = some e := by rw [← Array.getElem?_toList]; exact q1
    have hkey : e.key = a.eval y := by
      obtain ⟨cs', h4, h5⟩ := q5
      rw [h5, hk2, hK.one h4 hk1]
    have hsame : Instr.sameBits 10000 e.key (a.eval y) = true := by rw [hkey]; exact hbi
    have hmod : es.modify j (fun e => { e with key := a.eval y, val := a.eval z }) = es.modify j (fun e => { e with val := a.eval z }) := by
      apply Array.toList_inj.1
      rw [Array.toList_modify, Array.toList_modify]
      apply List.ext_getElem?
      intro i
      simp only [List.getElem?_modify]
      by_cases hi : j = i
      · subst hi
        rw [q1]; simp [hkey]
      · simp [hi]
    refine ⟨{ w with heap := w.heap.setIfInBounds bk (.map (es.modify j fun e => { e with val := a.eval z }) clock) }, ?_, ?_, some bk, setObj_gr, fun bb hbb => ⟨_, _, hr, by cases hbb; rfl⟩⟩
    · rw [e1]
      unfold Instr.mapUpdate
      simp only [Sem.run_bind, run_underlying hT, Result.andThen, MapKept.run_getObj_map h1, hck, hf, hq, hj, Option.map_some, Option.getD_some, Instr.keyThatStays, hsame, if_true, Sem.run_pure]
      rw [hmod, MapKept.run_setObj_map _ h1]
    · refine ha.upd r (v := .map (some bk)) setObj_gr (fun bb hbb => ⟨_, _, hr, by cases hbb; rfl⟩) (fun bb hbb => .inl ⟨_, _, hr, hbb⟩) (fun S' k' => owns_map (es := es.modify j fun e => { e with val := a.eval z }) (clock := clock) (by simp [hlt]) ?_ ?_)
      · rw [Array.toList_modify]
        exact q6 S' _ _ b k' (Rep.vrel.mono hz1 k')
      · rw [Array.toList_modify]; exact h3.modify (fun _ => rfl)
theorem mup {RK : Rep κ} {RV : Rep β} {mm : List (κ × β)} {x y z : Operand} {v : Value} {k : κ} {b : β} {T K V : TypeId} {n : Nat} (r : Nat) (hx : opE l x = some (.val v)) (hr : lr res r = some (v, .map RK RV mm)) (hy : opE l y = some (.rd RK k)) (hz : opE l z = some (.rd RV b)) (hK : KeyR P K RK n) (hT : P.underlying T = some (.map K V)) :
    EffS P Γ l res ⟨none, .mapUpdate T x y z, ty, pos, after, g⟩ r (v, .map RK RV (mput mm k b)) := fun a w ha => by
  obtain ⟨w', h1, h2, h3⟩ := mup' ha r hx hr hy hz hK hT
  exact ⟨w', by simp [execOp, h1], h2, h3⟩
theorem look0 {ws : List Nat} [LC C res ws] {RK : Rep κ} {RV : Rep β} {E : Ent} {mm : List (κ × β)} {x y : Operand} {k : κ} {x0 : β} {T K V : TypeId} {n by_ : Nat} {z : Value} (hx : opE l x = some E) (hm : Mp RK RV res ws E mm) (hy : opE l y = some (.rd RK k)) (hK : KeyR P K RK n) (hT : P.underlying T = some (.map K V)) (hV : TI P V z RV.sz by_) (hz : Zr RV z.cells.toList x0) (hzv : z = RV.val z.cells.toList) {a : Act} {w : World} (ha : Sta Γ l res a w) :
    ∃ v, RV.vrel (Shr Γ.H res w) w v ((mget mm k).getD x0) ∧ ∀ c w', C w w' → (Instr.lookup T (a.eval x) (a.eval y) c).run P w' = .ok (if c then .tuple #[v, .bool (mget mm k).isSome] else v) w' := by
  obtain ⟨b, es, clock, h1, h2, h3⟩ := hm.get (C := C) ha (ha.vl hx)
  obtain ⟨cs, hk1, hk2⟩ := ha.vl hy
  have hck := fun em w' => hK.chk hk1 10000 (Nat.le_of_ble_eq_true hK.deep) em w'
  rw [← hk2] at hck
  have hf := fun w' => run_find hK ⟨cs, hk1, hk2⟩ w' h2
  cases hq : fnd k es.toList mm 0 with
  | none =>
    obtain ⟨q1, -, -⟩ := fnd_none h2 hq
    refine ⟨z, ⟨_, by rw [q1]; exact hz _ _, hzv⟩, fun c w' hw' => ?_⟩
    rw [h1, q1]
    unfold Instr.lookup
    simp only [Sem.run_bind, run_underlying hT, Result.andThen, MapKept.run_getObj_map (h3 w' hw'), Sem.run_pure, hck, hf, hq, run_zero hV]
    rfl
  | some ju =>
    obtain ⟨j, u⟩ := ju
    obtain ⟨-, e, x1, q1, q2, q3, q4, q5, q6, q7⟩ := fnd_some h2 hq
    refine ⟨u, by rw [q3, ← q2]; exact q4, fun c w' hw' => ?_⟩
    rw [h1, q3]
    unfold Instr.lookup
    simp only [Sem.run_bind, run_underlying hT, Result.andThen, MapKept.run_getObj_map (h3 w' hw'), Sem.run_pure, hck, hf, hq]
    rfl
theorem mlk {ws : List Nat} [LC C res ws] {RK : Rep κ} {RV : Rep β} {E : Ent} {mm : List (κ × β)} {x y : Operand} {k : κ} {x0 : β} {T K V : TypeId} {n by_ : Nat} {z : Value} (hx : opE l x = some E) (hm : Mp RK RV res ws E mm) (hy : opE l y = some (.rd RK k)) (hK : KeyR P K RK n) (hT : P.underlying T = some (.map K V)) (hV : TI P V z RV.sz by_) (hz : Zr RV z.cells.toList x0) (hzv : z = RV.val z.cells.toList) :
    Run C P Γ l res ⟨some d, .lookup T x y false, ty, pos, after, g⟩ (.rd RV ((mget mm k).getD x0)) := fun a w ha => by
  obtain ⟨v, h1, h2⟩ := look0 (C := C) hx hm hy hK hT hV hz hzv ha
  exact ⟨v, fun w' hw' => by simp [execOp, h2 false w' hw'], h1⟩
theorem mlk2 {ws : List Nat} [LC C res ws] {RK : Rep κ} {RV : Rep β} {E : Ent} {mm : List (κ × β)} {x y : Operand} {k : κ} {x0 : β} {T K V : TypeId} {n by_ : Nat} {z : Value} (hx : opE l x = some E) (hm : Mp RK RV res ws E mm) (hy : opE l y = some (.rd RK k)) (hK : KeyR P K RK n) (hT : P.underlying T = some (.map K V)) (hV : TI P V z RV.sz by_) (hz : Zr RV z.cells.toList x0) (hzv : z = RV.val z.cells.toList) :
    Run C P Γ l res ⟨some d, .lookup T x y true, ty, pos, after, g⟩ (.tup [.rd RV ((mget mm k).getD x0), .rd boolR (mget mm k).isSome]) := fun a w ha => by
  obtain ⟨v, h1, h2⟩ := look0 (C := C) hx hm hy hK hT hV hz hzv ha
  exact ⟨_, fun w' hw' => by simp [execOp, h2 true w' hw'], [v, .bool (mget mm k).isSome], ⟨h1, rd_bool', trivial⟩, rfl⟩
end
end
section
open Go Go.RowKit
theorem mixed : Tryz.prog.follows .mixedOrders = true := by kernel_rfl
theorem sc2 : Sc Tryz.prog 2 := ⟨_, Tryz.underlying2, trivial⟩
theorem ti2 : TI Tryz.prog 2 (.int .i64 (0)) 1 8 := TI.mk' (by kernel_rfl)
theorem sc3 : Sc Tryz.prog 3 := ⟨_, Tryz.underlying3, trivial⟩
theorem ti3 : TI Tryz.prog 3 (.int .i64 (0)) 1 8 := TI.mk' (by kernel_rfl)
theorem sc4 : Sc Tryz.prog 4 := ⟨_, Tryz.underlying4, trivial⟩
theorem ti4 : TI Tryz.prog 4 (.bool false) 1 1 := TI.mk' (by kernel_rfl)
theorem sc5 : Sc Tryz.prog 5 := ⟨_, Tryz.underlying5, trivial⟩
theorem ti5 : TI Tryz.prog 5 (.int .u8 (0)) 1 1 := TI.mk' (by kernel_rfl)
theorem sc9 : Sc Tryz.prog 9 := ⟨_, Tryz.underlying9, trivial⟩
theorem ti9 : TI Tryz.prog 9 (.string ByteArray.empty) 1 16 := TI.mk' (by kernel_rfl)
theorem sc22 : Sc Tryz.prog 22 := ⟨_, Tryz.underlying22, trivial⟩
theorem ti22 : TI Tryz.prog 22 (.slice none 0 0) 1 24 := TI.mk' (by kernel_rfl)
theorem sc23 : Sc Tryz.prog 23 := ⟨_, Tryz.underlying23, trivial⟩
theorem ti23 : TI Tryz.prog 23 (.slice none 0 0) 1 24 := TI.mk' (by kernel_rfl)
theorem ag25 : Ag Tryz.prog 25 := ⟨_, Tryz.underlying25, trivial⟩
theorem ti25 : TI Tryz.prog 25 (.agg #[.slice none 0 0, .slice none 0 0]) 2 48 := TI.mk' (by kernel_rfl)
theorem ag27 : Ag Tryz.prog 27 := ⟨_, Tryz.underlying27, trivial⟩
theorem ti27 : TI Tryz.prog 27 (.agg #[.int .u8 (0), .int .u8 (0), .int .u8 (0), .int .u8 (0), .int .u8 (0), .int .u8 (0), .int .u8 (0), .int .u8 (0), .int .u8 (0), .int .u8 (0), .int .u8 (0), .int .u8 (0), .int .u8 (0), .int .u8 (0), .int .u8 (0), .int .u8 (0), .int .u8 (0), .int .u8 (0), .int .u8 (0), .int .u8 (0), .int .u8 (0), .int .u8 (0), .int .u8 (0), .int .u8 (0), .int .u8 (0), .int .u8 (0), .int .u8 (0), .int .u8 (0), .int .u8 (0), .int .u8 (0), .int .u8 (0), .int .u8 (0)]) 32 32 := TI.mk' (by kernel_rfl)
theorem sc56 : Sc Tryz.prog 56 := ⟨_, Tryz.underlying56, trivial⟩
theorem ti56 : TI Tryz.prog 56 (.int .u32 (0)) 1 4 := TI.mk' (by kernel_rfl)
theorem sc57 : Sc Tryz.prog 57 := ⟨_, Tryz.underlying57, trivial⟩
theorem ti57 : TI Tryz.prog 57 (.int .u64 (0)) 1 8 := TI.mk' (by kernel_rfl)
theorem ag59 : Ag Tryz.prog 59 := ⟨_, Tryz.underlying59, trivial⟩
theorem ti59 : TI Tryz.prog 59 (.agg #[.int .u8 (0), .int .i64 (0), .int .u64 (0), .string ByteArray.empty]) 4 40 := TI.mk' (by kernel_rfl)
theorem ag61 : Ag Tryz.prog 61 := ⟨_, Tryz.underlying61, trivial⟩
theorem ti61 : TI Tryz.prog 61 (.agg #[.int .u8 (0), .string ByteArray.empty, .int .u8 (0), .int .i64 (0), .int .u64 (0), .string ByteArray.empty]) 6 64 := TI.mk' (by kernel_rfl)
theorem ag63 : Ag Tryz.prog 63 := ⟨_, Tryz.underlying63, trivial⟩
theorem ti63 : TI Tryz.prog 63 (.agg #[.int .u32 (0), .int .u32 (0)]) 2 8 := TI.mk' (by kernel_rfl)
theorem ag65 : Ag Tryz.prog 65 := ⟨_, Tryz.underlying65, trivial⟩
theorem ti65 : TI Tryz.prog 65 (.agg #[.int .u32 (0), .slice none 0 0, .int .u64 (0), .int .u8 (0), .string ByteArray.empty, .int .u8 (0), .int .i64 (0), .int .u64 (0), .string ByteArray.empty, .int .u32 (0), .int .u32 (0)]) 11 112 := TI.mk' (by kernel_rfl)
theorem sc68 : Sc Tryz.prog 68 := ⟨_, Tryz.underlying68, trivial⟩
theorem ti68 : TI Tryz.prog 68 (.slice none 0 0) 1 24 := TI.mk' (by kernel_rfl)
theorem sc74 : Sc Tryz.prog 74 := ⟨_, Tryz.underlying74, trivial⟩
theorem ti74 : TI Tryz.prog 74 (.map none) 1 8 := TI.mk' (by kernel_rfl)
theorem sc78 : Sc Tryz.prog 78 := ⟨_, Tryz.underlying78, trivial⟩
theorem ti78 : TI Tryz.prog 78 (.slice none 0 0) 1 24 := TI.mk' (by kernel_rfl)
theorem ti92 : TI Tryz.prog 92 (.nilFunc) 1 8 := TI.mk' (by kernel_rfl)
theorem sc103 : Sc Tryz.prog 103 := ⟨_, Tryz.underlying103, trivial⟩
theorem ti103 : TI Tryz.prog 103 (.slice none 0 0) 1 24 := TI.mk' (by kernel_rfl)
theorem ag141 : Ag Tryz.prog 141 := ⟨_, Tryz.underlying141, trivial⟩
theorem ti141 : TI Tryz.prog 141 (.agg #[.int .u32 (0), .int .u32 (0), .int .u32 (0), .int .u32 (0), .int .u32 (0), .int .u32 (0), .int .u32 (0), .int .u32 (0)]) 8 32 := TI.mk' (by kernel_rfl)
theorem ag155 : Ag Tryz.prog 155 := ⟨_, Tryz.underlying155, trivial⟩
theorem ti155 : TI Tryz.prog 155 (.agg #[.int .u32 (0), .int .u32 (0), .int .u32 (0), .int .u32 (0), .int .u32 (0), .int .u32 (0), .int .u32 (0), .int .u32 (0), .slice none 0 0, .int .i64 (0)]) 10 64 := TI.mk' (by kernel_rfl)
theorem ag194 : Ag Tryz.prog 194 := ⟨_, Tryz.underlying194, trivial⟩
theorem ti194 : TI Tryz.prog 194 (.agg #[.int .u32 (0), .int .u32 (0), .int .u32 (0), .int .u32 (0), .int .u32 (0), .int .u32 (0), .int .u32 (0), .int .u32 (0), .int .u32 (0), .int .u32 (0), .int .u32 (0), .int .u32 (0), .int .u32 (0), .int .u32 (0), .int .u32 (0), .int .u32 (0), .int .u32 (0), .int .u32 (0), .int .u32 (0), .int .u32 (0), .int .u32 (0), .int .u32 (0), .int .u32 (0), .int .u32 (0), .int .u32 (0), .int .u32 (0), .int .u32 (0), .int .u32 (0), .int .u32 (0), .int .u32 (0), .int .u32 (0), .int .u32 (0), .int .u32 (0), .int .u32 (0), .int .u32 (0), .int .u32 (0), .int .u32 (0), .int .u32 (0), .int .u32 (0), .int .u32 (0), .int .u32 (0), .int .u32 (0), .int .u32 (0), .int .u32 (0), .int .u32 (0), .int .u32 (0), .int .u32 (0), .int .u32 (0), .int .u32 (0), .int .u32 (0), .int .u32 (0), .int .u32 (0), .int .u32 (0), .int .u32 (0), .int .u32 (0), .int .u32 (0), .int .u32 (0), .int .u32 (0), .int .u32 (0), .int .u32 (0), .int .u32 (0), .int .u32 (0), .int .u32 (0), .int .u32 (0)]) 64 256 := TI.mk' (by kernel_rfl)
theorem tu3 : Tryz.prog.underlying 3 = some (.int .i64) := Tryz.underlying3
theorem tu5 : Tryz.prog.underlying 5 = some (.int .u8) := Tryz.underlying5
theorem tu9 : Tryz.prog.underlying 9 = some (.string) := Tryz.underlying9
theorem tu22 : Tryz.prog.underlying 22 = some (.slice 27) := Tryz.underlying22
theorem tu23 : Tryz.prog.underlying 23 = some (.slice 65) := Tryz.underlying23
theorem tu27 : Tryz.prog.underlying 27 = some (.array 32 5) := Tryz.underlying27
theorem tu56 : Tryz.prog.underlying 56 = some (.int .u32) := Tryz.underlying56
theorem tu57 : Tryz.prog.underlying 57 = some (.int .u64) := Tryz.underlying57
theorem tu68 : Tryz.prog.underlying 68 = some (.slice 4) := Tryz.underlying68
theorem tu78 : Tryz.prog.underlying 78 = some (.slice 3) := Tryz.underlying78
theorem tu103 : Tryz.prog.underlying 103 = some (.slice 5) := Tryz.underlying103
theorem tu126 : Tryz.prog.underlying 126 = some (.slice 103) := Tryz.underlying126
theorem tu141 : Tryz.prog.underlying 141 = some (.array 8 56) := Tryz.underlying141
theorem tu188 : Tryz.prog.underlying 188 = some (.slice 56) := Tryz.underlying188
end
section
open Go Go.RowKit
structure api_Value where
  Kind : UInt8
  Num : Int
  Bits : UInt64
  Text : List UInt8
  deriving DecidableEq, Inhabited
def R_api_Value : Rep api_Value := viaR (fun x => (x.Kind, x.Num, x.Bits, x.Text, ())) (prodR u8R (prodR i64R (prodR u64R (prodR strR unitR))))
theorem pt_api_Value_Kind (x : api_Value) : Part R_api_Value x 0 u8R x.Kind (fun y => { x with Kind := y }) := (Part.fst).via (fun _ => rfl)
theorem pt_api_Value_Num (x : api_Value) : Part R_api_Value x 1 i64R x.Num (fun y => { x with Num := y }) := (Part.snd Part.fst).via (fun _ => rfl)
theorem pt_api_Value_Bits (x : api_Value) : Part R_api_Value x 2 u64R x.Bits (fun y => { x with Bits := y }) := (Part.snd (Part.snd Part.fst)).via (fun _ => rfl)
theorem pt_api_Value_Text (x : api_Value) : Part R_api_Value x 3 strR x.Text (fun y => { x with Text := y }) := (Part.snd (Part.snd (Part.snd Part.fst))).via (fun _ => rfl)
structure api_Act where
  Kind : UInt8
  Key : List UInt8
  Value : api_Value
  deriving DecidableEq, Inhabited
def R_api_Act : Rep api_Act := viaR (fun x => (x.Kind, x.Key, x.Value, ())) (prodR u8R (prodR strR (prodR R_api_Value unitR)))
theorem pt_api_Act_Kind (x : api_Act) : Part R_api_Act x 0 u8R x.Kind (fun y => { x with Kind := y }) := (Part.fst).via (fun _ => rfl)
theorem pt_api_Act_Key (x : api_Act) : Part R_api_Act x 1 strR x.Key (fun y => { x with Key := y }) := (Part.snd Part.fst).via (fun _ => rfl)
theorem pt_api_Act_Value (x : api_Act) : Part R_api_Act x 2 R_api_Value x.Value (fun y => { x with Value := y }) := (Part.snd (Part.snd Part.fst)).via (fun _ => rfl)
structure api_Sig where
  E : UInt32
  S : UInt32
  deriving DecidableEq, Inhabited
def R_api_Sig : Rep api_Sig := viaR (fun x => (x.E, x.S, ())) (prodR u32R (prodR u32R unitR))
theorem pt_api_Sig_E (x : api_Sig) : Part R_api_Sig x 0 u32R x.E (fun y => { x with E := y }) := (Part.fst).via (fun _ => rfl)
theorem pt_api_Sig_S (x : api_Sig) : Part R_api_Sig x 1 u32R x.S (fun y => { x with S := y }) := (Part.snd Part.fst).via (fun _ => rfl)
structure api_Op where
  Author : UInt32
  Preds : List (Vector UInt8 32)
  Stamp : UInt64
  Act : api_Act
  Sig : api_Sig
  deriving DecidableEq, Inhabited
def R_api_Op : Rep api_Op := viaR (fun x => (x.Author, x.Preds, x.Stamp, x.Act, x.Sig, ())) (prodR u32R (prodR (sliceR (arrR 32 u8R)) (prodR u64R (prodR R_api_Act (prodR R_api_Sig unitR)))))
theorem pt_api_Op_Author (x : api_Op) : Part R_api_Op x 0 u32R x.Author (fun y => { x with Author := y }) := (Part.fst).via (fun _ => rfl)
theorem pt_api_Op_Preds (x : api_Op) : Part R_api_Op x 1 (sliceR (arrR 32 u8R)) x.Preds (fun y => { x with Preds := y }) := (Part.snd Part.fst).via (fun _ => rfl)
theorem pt_api_Op_Stamp (x : api_Op) : Part R_api_Op x 2 u64R x.Stamp (fun y => { x with Stamp := y }) := (Part.snd (Part.snd Part.fst)).via (fun _ => rfl)
theorem pt_api_Op_Act (x : api_Op) : Part R_api_Op x 3 R_api_Act x.Act (fun y => { x with Act := y }) := (Part.snd (Part.snd (Part.snd Part.fst))).via (fun _ => rfl)
theorem pt_api_Op_Sig (x : api_Op) : Part R_api_Op x 9 R_api_Sig x.Sig (fun y => { x with Sig := y }) := (Part.snd (Part.snd (Part.snd (Part.snd Part.fst)))).via (fun _ => rfl)
structure api_Graph where
  IDs : List (Vector UInt8 32)
  Ops : List api_Op
  deriving DecidableEq, Inhabited
def R_api_Graph : Rep api_Graph := viaR (fun x => (x.IDs, x.Ops, ())) (prodR (sliceR (arrR 32 u8R)) (prodR (sliceR R_api_Op) unitR))
theorem pt_api_Graph_IDs (x : api_Graph) : Part R_api_Graph x 0 (sliceR (arrR 32 u8R)) x.IDs (fun y => { x with IDs := y }) := (Part.fst).via (fun _ => rfl)
theorem pt_api_Graph_Ops (x : api_Graph) : Part R_api_Graph x 1 (sliceR R_api_Op) x.Ops (fun y => { x with Ops := y }) := (Part.snd Part.fst).via (fun _ => rfl)
structure api_Mill where
  Words : Vector UInt32 8
  Rest : List UInt8
  N : Int
  deriving DecidableEq, Inhabited
def R_api_Mill : Rep api_Mill := viaR (fun x => (x.Words, x.Rest, x.N, ())) (prodR (arrR 8 u32R) (prodR (sliceR u8R) (prodR i64R unitR)))
theorem pt_api_Mill_Words (x : api_Mill) : Part R_api_Mill x 0 (arrR 8 u32R) x.Words (fun y => { x with Words := y }) := (Part.fst).via (fun _ => rfl)
theorem pt_api_Mill_Rest (x : api_Mill) : Part R_api_Mill x 8 (sliceR u8R) x.Rest (fun y => { x with Rest := y }) := (Part.snd Part.fst).via (fun _ => rfl)
theorem pt_api_Mill_N (x : api_Mill) : Part R_api_Mill x 9 i64R x.N (fun y => { x with N := y }) := (Part.snd (Part.snd Part.fst)).via (fun _ => rfl)
theorem zr26 : Zr (arrR 32 u8R) (Value.cells (.agg #[.int .u8 (0), .int .u8 (0), .int .u8 (0), .int .u8 (0), .int .u8 (0), .int .u8 (0), .int .u8 (0), .int .u8 (0), .int .u8 (0), .int .u8 (0), .int .u8 (0), .int .u8 (0), .int .u8 (0), .int .u8 (0), .int .u8 (0), .int .u8 (0), .int .u8 (0), .int .u8 (0), .int .u8 (0), .int .u8 (0), .int .u8 (0), .int .u8 (0), .int .u8 (0), .int .u8 (0), .int .u8 (0), .int .u8 (0), .int .u8 (0), .int .u8 (0), .int .u8 (0), .int .u8 (0), .int .u8 (0), .int .u8 (0)])).toList (Vector.replicate 32 0) := Zr.arr (c := (Value.cells (.int .u8 (0))).toList) (Zr.num rfl) rfl
theorem zr141 : Zr (arrR 8 u32R) (Value.cells (.agg #[.int .u32 (0), .int .u32 (0), .int .u32 (0), .int .u32 (0), .int .u32 (0), .int .u32 (0), .int .u32 (0), .int .u32 (0)])).toList (Vector.replicate 8 0) := Zr.arr (c := (Value.cells (.int .u32 (0))).toList) (Zr.num rfl) rfl
theorem zr194 : Zr (arrR 64 u32R) (Value.cells (.agg #[.int .u32 (0), .int .u32 (0), .int .u32 (0), .int .u32 (0), .int .u32 (0), .int .u32 (0), .int .u32 (0), .int .u32 (0), .int .u32 (0), .int .u32 (0), .int .u32 (0), .int .u32 (0), .int .u32 (0), .int .u32 (0), .int .u32 (0), .int .u32 (0), .int .u32 (0), .int .u32 (0), .int .u32 (0), .int .u32 (0), .int .u32 (0), .int .u32 (0), .int .u32 (0), .int .u32 (0), .int .u32 (0), .int .u32 (0), .int .u32 (0), .int .u32 (0), .int .u32 (0), .int .u32 (0), .int .u32 (0), .int .u32 (0), .int .u32 (0), .int .u32 (0), .int .u32 (0), .int .u32 (0), .int .u32 (0), .int .u32 (0), .int .u32 (0), .int .u32 (0), .int .u32 (0), .int .u32 (0), .int .u32 (0), .int .u32 (0), .int .u32 (0), .int .u32 (0), .int .u32 (0), .int .u32 (0), .int .u32 (0), .int .u32 (0), .int .u32 (0), .int .u32 (0), .int .u32 (0), .int .u32 (0), .int .u32 (0), .int .u32 (0), .int .u32 (0), .int .u32 (0), .int .u32 (0), .int .u32 (0), .int .u32 (0), .int .u32 (0), .int .u32 (0), .int .u32 (0)])).toList (Vector.replicate 64 0) := Zr.arr (c := (Value.cells (.int .u32 (0))).toList) (Zr.num rfl) rfl
theorem zr59 : Zr R_api_Value (Value.cells (.agg #[.int .u8 (0), .int .i64 (0), .int .u64 (0), .string ByteArray.empty])).toList (⟨0, 0, 0, []⟩ : api_Value) := Zr.via (Zr.prod (Zr.num rfl) (Zr.prod (Zr.num rfl) (Zr.prod (Zr.num rfl) (Zr.prod Zr.str Zr.unit rfl) rfl) rfl) rfl)
theorem zr61 : Zr R_api_Act (Value.cells (.agg #[.int .u8 (0), .string ByteArray.empty, .int .u8 (0), .int .i64 (0), .int .u64 (0), .string ByteArray.empty])).toList (⟨0, [], (⟨0, 0, 0, []⟩ : api_Value)⟩ : api_Act) := Zr.via (Zr.prod (Zr.num rfl) (Zr.prod Zr.str (Zr.prod zr59 Zr.unit rfl) rfl) rfl)
theorem zr63 : Zr R_api_Sig (Value.cells (.agg #[.int .u32 (0), .int .u32 (0)])).toList (⟨0, 0⟩ : api_Sig) := Zr.via (Zr.prod (Zr.num rfl) (Zr.prod (Zr.num rfl) Zr.unit rfl) rfl)
theorem sc1 : Sc Tryz.prog 1 := ⟨_, Tryz.underlying1, trivial⟩
theorem ty1 : TyIs Tryz.prog 1 false 1 := .sc sc1
theorem ty2 : TyIs Tryz.prog 2 false 1 := .sc sc2
theorem ty3 : TyIs Tryz.prog 3 false 1 := .sc sc3
theorem ty4 : TyIs Tryz.prog 4 false 1 := .sc sc4
theorem ty5 : TyIs Tryz.prog 5 false 1 := .sc sc5
theorem ty9 : TyIs Tryz.prog 9 false 1 := .sc sc9
theorem ty22 : TyIs Tryz.prog 22 false 1 := .sc sc22
theorem ty23 : TyIs Tryz.prog 23 false 1 := .sc sc23
theorem ty25 : TyIs Tryz.prog 25 true 2 := .ag ag25 ti25
theorem ty27 : TyIs Tryz.prog 27 true 32 := .ag ag27 ti27
theorem ty56 : TyIs Tryz.prog 56 false 1 := .sc sc56
theorem ty57 : TyIs Tryz.prog 57 false 1 := .sc sc57
theorem ty59 : TyIs Tryz.prog 59 true 4 := .ag ag59 ti59
theorem ty61 : TyIs Tryz.prog 61 true 6 := .ag ag61 ti61
theorem ty63 : TyIs Tryz.prog 63 true 2 := .ag ag63 ti63
theorem ty65 : TyIs Tryz.prog 65 true 11 := .ag ag65 ti65
theorem ty78 : TyIs Tryz.prog 78 false 1 := .sc sc78
theorem sc92 : Sc Tryz.prog 92 := ⟨_, Tryz.underlying92, trivial⟩
theorem ty103 : TyIs Tryz.prog 103 false 1 := .sc sc103
theorem ty141 : TyIs Tryz.prog 141 true 8 := .ag ag141 ti141
theorem ty155 : TyIs Tryz.prog 155 true 10 := .ag ag155 ti155
theorem ty194 : TyIs Tryz.prog 194 true 64 := .ag ag194 ti194
def gtab1 : Vector UInt32 64 := #v[1116352408, 1899447441, 3049323471, 3921009573, 961987163, 1508970993, 2453635748, 2870763221, 3624381080, 310598401, 607225278, 1426881987, 1925078388, 2162078206, 2614888103, 3248222580, 3835390401, 4022224774, 264347078, 604807628, 770255983, 1249150122, 1555081692, 1996064986, 2554220882, 2821834349, 2952996808, 3210313671, 3336571891, 3584528711, 113926993, 338241895, 666307205, 773529912, 1294757372, 1396182291, 1695183700, 1986661051, 2177026350, 2456956037, 2730485921, 2820302411, 3259730800, 3345764771, 3516065817, 3600352804, 4094571909, 275423344, 430227734, 506948616, 659060556, 883997877, 958139571, 1322822218, 1537002063, 1747873779, 1955562222, 2024104815, 2227730452, 2361852424, 2428436474, 2756734187, 3204031479, 3329325298]
end
section
open Go Go.RowKit
set_option maxRecDepth 100000 in
theorem eq27 : EqR Tryz.prog 27 (arrR 32 u8R) 2 := EqR.arr (EqR.u8 Tryz.underlying5) Tryz.underlying27 ti5 ty5
set_option maxRecDepth 100000 in
theorem gq27 : Tryz.prog.eqGuardType Tryz.prog.depth 27 = false := by kernel_rfl
set_option maxRecDepth 100000 in
theorem eq59 : EqR Tryz.prog 59 R_api_Value ((max 1 (max 1 (max 1 (max 1 0)))) + 1) := EqR.struct (R := (prodR u8R (prodR i64R (prodR u64R (prodR strR unitR))))) (g := fun x : api_Value => (x.Kind, x.Num, x.Bits, x.Text, ())) (EqF.cons (EqR.u8 Tryz.underlying5) ty5 rfl (by decide) (EqF.cons (EqR.i64 Tryz.underlying2) ty2 rfl (by decide) (EqF.cons (EqR.u64 Tryz.underlying57) ty57 rfl (by decide) (EqF.cons (EqR.str Tryz.underlying9) ty9 rfl (by decide) EqF.nil)))) Tryz.underlying59 (by kernel_rfl) (fun x y h => by cases x; cases y; simpa using h) rfl
set_option maxRecDepth 100000 in
theorem gq59 : Tryz.prog.eqGuardType Tryz.prog.depth 59 = false := by kernel_rfl
set_option maxRecDepth 100000 in
theorem eq61 : EqR Tryz.prog 61 R_api_Act ((max 1 (max 1 (max 2 0))) + 1) := EqR.struct (R := (prodR u8R (prodR strR (prodR R_api_Value unitR)))) (g := fun x : api_Act => (x.Kind, x.Key, x.Value, ())) (EqF.cons (EqR.u8 Tryz.underlying5) ty5 rfl (by decide) (EqF.cons (EqR.str Tryz.underlying9) ty9 rfl (by decide) (EqF.cons eq59 ty59 rfl (by decide) EqF.nil))) Tryz.underlying61 (by kernel_rfl) (fun x y h => by cases x; cases y; simpa using h) rfl
set_option maxRecDepth 100000 in
theorem gq61 : Tryz.prog.eqGuardType Tryz.prog.depth 61 = false := by kernel_rfl
set_option maxRecDepth 100000 in
theorem eq63 : EqR Tryz.prog 63 R_api_Sig ((max 1 (max 1 0)) + 1) := EqR.struct (R := (prodR u32R (prodR u32R unitR))) (g := fun x : api_Sig => (x.E, x.S, ())) (EqF.cons (EqR.u32 Tryz.underlying56) ty56 rfl (by decide) (EqF.cons (EqR.u32 Tryz.underlying56) ty56 rfl (by decide) EqF.nil)) Tryz.underlying63 (by kernel_rfl) (fun x y h => by cases x; cases y; simpa using h) rfl
set_option maxRecDepth 100000 in
theorem gq63 : Tryz.prog.eqGuardType Tryz.prog.depth 63 = false := by kernel_rfl
theorem ky27 : KeyR Tryz.prog 27 (arrR 32 u8R) 2 := KeyR.arr (KeyR.u8 Tryz.underlying5) Tryz.underlying27 ti5 ty5 rfl
end
section
open Go Go.RowKit
variable {ro : Option Nat}
section
variable {α : Type} {C : World → World → Prop} {P : Program} {Γ : Ctx} {l : Slots} {res : Res} {d : Tmp} {ty : TypeId} {pos : String} {after : Array Edge} {g : Option (Nat × Bool)} {R : Rep α}
def VwE (R : Rep α) (v : Value) (L x : List α) (E : Ent) : Prop := ∀ S w u, E.holds S w u → (Ent.vw R v L x).holds S w u
theorem vwW {v : Value} {L : List α} : VwE R v L L (.val v) := fun _ _ _ h => .inl ⟨h.1, rfl, by rw [h.1]; exact h.2⟩
theorem aW {os : List Operand} {ps : List Ent} {o : Operand} {v : Value} {L : List α} (h : opE l o = some (.val v)) (k : ArgsQ l os ps) : ArgsQ l (o :: os) (.vw R v L L :: ps) := ⟨⟨_, h, vwW⟩, k⟩
theorem vw_form {S : Blk} {w : World} {u v : Value} {T : TypeId} {L x : List α} (h : (Ent.vw R v L x).holds S w u) (hc : (Cont.list R T L).holds S w v) :
    (u = .slice none 0 0 ∧ x = []) ∨ ∃ k o sp cap i, u = .slice (some ⟨k, o, sp⟩) x.length cap ∧ rblk v = some k ∧ x.length ≤ cap ∧ cap ≤ maxLen ∧ (x ≠ [] → sp = none ∧ o = i * R.sz) ∧ (L.drop i).take x.length = x := by
  rcases h with ⟨rfl, rfl, -⟩ | h | h
  · rcases hc with ⟨rfl, rfl⟩ | ⟨b', ob, g1, g2, bb, cp, Cc, rfl, rfl, g3, g4, g5, g6⟩
    · exact .inl ⟨rfl, rfl⟩
    · exact .inr ⟨bb, 0, none, cp, 0, rfl, rfl, g3, g4, fun _ => ⟨rfl, by simp⟩, by simp⟩
  · exact .inl h
  · exact .inr h
theorem ixQ {β : Type} {b L : List α} {y : α} {k : IntKind} {f : β → Int} {j : β} {x z' : Operand} {T e E : TypeId} {z v : Value} {by_ : Nat} (r : Nat) (hx : opE l x = some (.vw R v L b)) (hr : lr res r = some (v, .list R E L)) (hj : opE l z' = some (.rd (numR k f) j)) (hy : idx b (f j) = some y) (hT : P.underlying T = some (.slice e)) (hE : TI P e z R.sz by_) :
    Run C P Γ l res ⟨some d, .indexAddr T x z', ty, pos, after, g⟩ (.vp R v L y) := fun a w ha => by
  obtain ⟨k1, k2, k3⟩ := idx_some hy
  have hj' : a.eval z' = .int k ((f j).toNat : Int) := by rw [rd_num (ha.vl hj)]; congr 1; omega
  rcases vw_form (ha.vl hx) (ha.conts r v _ hr) with ⟨k5, rfl⟩ | ⟨bk, o, sp, cap, n, h5, q1, q2, q3, q4, q5⟩
  · simp at k3
  · have hne : b ≠ [] := fun e => by rw [e] at k3; simp at k3
    obtain ⟨rfl, rfl⟩ := q4 hne
    refine ⟨.pointer (some ⟨bk, n * R.sz + (f j).toNat * R.sz, none⟩), fun w' _ => ?_, bk, n + (f j).toNat, by rw [Nat.add_mul], q1, ?_⟩
    · generalize (f j).toNat = jn at *
      simp [execOp, h5, hj', Instr.indexAt, asIntOf, run_underlying hT, k3, run_sizeOf hE, add_none]
    · rw [← q5, List.getElem?_take, if_pos k3, List.getElem?_drop] at k2
      exact k2
theorem ldQ {ws : List Nat} [LC C res ws] {L : List α} {y : α} {t E : TypeId} {x : Operand} {v : Value} (r : Nat) (hx : opE l x = some (.vp R v L y)) (hr : lr res r = some (v, .list R E L)) (hT : TyIs P t R.agg R.sz) (hw : ws.contains r = false) :
    Run C P Γ l res ⟨some d, .load t x, ty, pos, after, g⟩ (.rd R y) := fun a w ha => by
  obtain ⟨k, n, h1, hk, hy⟩ := ha.vl hx
  have hidx : idx L (n : Int) = some y := by unfold idx; rw [if_pos (by omega)]; simpa using hy
  have hf : Foc (.list R E L) (n * R.sz) R y (fun y => .list R E (L.set n y)) := by
    have := Foc.el (R := R) (T := E) hidx
    simpa using this
  rcases ha.conts r v _ hr with ⟨q1, -⟩ | ⟨b, o, h2, h3, h4⟩
  · rw [q1] at hk; cases hk
  · obtain ⟨b', Cc, T, a', cs, dd, k1, rfl, k3, k4, k5, -⟩ := hf.2 _ w v o h4
    have e : b = b' := by have := base_rblk k1; rw [h2] at this; cases this; rfl
    subst e
    have hk : some b = some k := by rw [← h2, hk]
    cases hk
    refine ⟨R.val cs, fun w' hw' => ?_, cs, k5, rfl⟩
    have hb' : w'.heap[k]? = some (.cells Cc T (0, 0)) := (CW.at hw' ha hr h2 hw).trans h3
    have := Bx.load (P := P) hb' k3 (R.mono (CW.stay hw') k5) hT
    rw [k4] at this
    simp [execOp, h1, Instr.loadAt, Instr.sureAddr, this]
end
section
variable {ρ α : Type} {P : Program} {Γ : Ctx} {l : Slots} {res : Res} {m : Option ρ} {os rest : List Oper} {N Q : ρ → Exit → Act → World → Prop} {c : Code} {e : Exit}
end
end
section
open Go Go.RowKit
def Cont.is (o0 : Obj) : Cont where
  nil _ _ _ := False
  nilm _ h := h
  nilb h := h.elim
  rel _ _ _ o := o = o0
  mono _ h := h
def Ent.clo (gf : FuncId) (pin : List Ent) : Ent := ⟨fun S w v => ∃ vs, holdsL S w pin vs ∧ v = .func (.func gf) #[] vs.toArray, fun k h => by obtain ⟨vs, h1, h2⟩ := h; exact ⟨vs, h1.mono k, h2⟩⟩
def Since (V : Blk) (W W' : World) : Blk := fun b => V b ∨ (W.heap.size ≤ b ∧ b < W'.heap.size)
structure ItC {α : Type} (P : Program) (gf : FuncId) (R : Rep α) (pin : List Ent) (it : ∀ {σ : Type}, (α → σ → Option σ) → σ → Option σ) : Prop where
  run : ∀ {σ : Type} (Y : α → σ → Option σ) (J : Blk → σ → World → Prop) (V : Blk) (l : Nat) (vs : List Value) (w : World) (s s' : σ), it Y s = some s' →
    holdsL V w pin vs → J V s w → (∀ V s W, J V s W → ∀ b, V b → b < W.heap.size) → (∀ V s W W', J V s W → Ext W W' → J (Since V W W') s W') →
    (∀ V s s' x u W, Y x s = some s' → J V s W → (Ent.rd R x).holds V W u → YieldAt Fence.wide 0 P l #[u] W fun e W' => e = .returned (.bool true) ∧ J V s' W' ∧ Keep V W W') →
    Calls P gf (#[.func (.yield l) #[] #[]] ++ vs.toArray) w fun e W' => (∃ v, e = .returned v) ∧ ∃ V', J V' s' W'
abbrev ctxD (n : Nat) (H : Blk) (rin : Res) (w : World) (ds : List Deferred) : Ctx := ⟨n, fun b => b < w.heap.size ∧ ¬ Bof rin b, H, w, ds⟩
section
variable {ρ α σ : Type} {P : Program} {Γ : Ctx} {l L : Slots} {res : Res} {A : Asn} {Q : ρ → Exit → Act → World → Prop}
theorem Sta.react {a a' : Act} {w : World} {H : Blk} {n : Nat} {ds ds' : List Deferred} (ha : Sta (ctxD n H res w ds) l res a w) (hz : a'.tmps.size = n) (hd : a'.defers = ds') {L : Slots}
    (hs : ∀ t e, lk L t = some e → ∃ v, a'.tmps[t]? = some v ∧ e.holds (Shr H res w) w v) : Sta (ctxD n H res w ds') L res a' w :=
  ⟨hz, hd, hs, ha.conts, ha.excl, ha.own, Keep.rfl', fun b hb => hb.1, ha.hid⟩
structure RngJ (P : Program) (Γ : Ctx) (L : Slots) (a0 : Act) (H V : Blk) (lp D : Nat) (rec : Loop) (res : Res) (W : World) : Prop where
  st : Sta (ctxD Γ.n H res W Γ.ds) L res a0 W
  keep : Keep Γ.K Γ.w0 W
  own : ∀ r v c b, lr res r = some (v, c) → rblk v = some b → ¬ Γ.K b ∧ ¬ V b
  hl : W.heap[lp]? = some (.loop rec)
  hD : W.heap[D]? = some (.deferred (some []))
  vlt : ∀ b, V b → b < W.heap.size ∧ ¬ H b
theorem Sta.extR {a : Act} {w w' : World} {H : Blk} {n : Nat} {ds : List Deferred} (h : Sta (ctxD n H res w ds) l res a w) (k : Ext w w') : Sta (ctxD n H res w' ds) l res a w' := by
  have h2 := h.ext k
  exact ⟨h2.size, h2.defers, h2.slots, h2.conts, h2.excl, fun r v c h b hb hk => hk.2 ⟨r, v, c, h, hb⟩, Keep.rfl', fun b hb => hb.1, fun b hb => ⟨Nat.lt_of_lt_of_le (h.hid b hb).1 k.size, (h.hid b hb).2⟩⟩
theorem RngJ.ext {a0 : Act} {H V : Blk} {lp D : Nat} {rec : Loop} {W W' : World} (h : RngJ P Γ L a0 H V lp D rec res W) (hK : ∀ b, Γ.K b → b < Γ.w0.heap.size) (k : Ext W W') : RngJ P Γ L a0 H (Since V W W') lp D rec res W' :=
  ⟨h.st.extR k, h.keep.ext hK k, fun r v c b h1 h2 => ⟨(h.own r v c b h1 h2).1, fun hb => by
      rcases hb with hb | hb
      · exact (h.own r v c b h1 h2).2 hb
      · have := (h.st.conts r v c h1).lt h2; omega⟩, (k.block lp (Array.getElem?_eq_some_iff.1 h.hl).1).trans h.hl, (k.block D (Array.getElem?_eq_some_iff.1 h.hD).1).trans h.hD,
    fun b hb => by
      rcases hb with hb | hb
      · exact ⟨Nat.lt_of_lt_of_le (h.vlt b hb).1 k.size, (h.vlt b hb).2⟩
      · exact ⟨hb.2, fun hh => by have := (h.st.hid b hh).1; omega⟩⟩
def beginQ (lp : Nat) (P : Program) (body : Code) (Qb : ρ → Exit → Act → World → Prop) : ρ → Exit → Act → World → Prop := fun r e a w => e = .normal ∧ ∃ w₂, (Instr.beginRound lp).run P w = .ok () w₂ ∧ wpM (some lp) P body (Qb r) a w₂
def roundAs (n : Nat) (H : Blk) (lp : Nat) (rec : Loop) (W : World) (res0 : Res) (res' : (Nat → Value) → Res) : Asn := fun a w =>
  ∃ (res2 : Res) (W2 : World), Keep (fun b => b < W.heap.size ∧ ¬ Bof res0 b ∧ b ≠ lp) W W2 ∧ (∀ b, b < W.heap.size → ¬ Bof res0 b → ¬ Bof res2 b) ∧ W2.heap[lp]? = some (.loop { rec with state := .busy }) ∧ ∃ nv', Sta (ctx n H res2 W2) [] (res' nv') a w
def RoundOk (P : Program) (n : Nat) (R : Rep α) (p : Tmp) (L : Slots) (assign body : Code) (Bs : σ → (Nat → Value) → Res) (Y : α → σ → Option σ) : Prop :=
  ∀ (lp : Nat) (rec : Loop) (H : Blk) (W : World) (nv : Nat → Value) (x : α) (s : σ), rec.state = .ready → H lp → W.heap[lp]? = some (.loop rec) →
    G (some lp) P (Sta (ctx n H (Bs s nv) W) ((p, .rd R x) :: L) (Bs s nv)) assign (beginQ lp P body (midQ fun s' => roundAs n H lp rec W (Bs s nv) (Bs s'))) (Y x s)
theorem Sta.turn {a : Act} {w : World} {H : Blk} {n lp : Nat} {ds : List Deferred} {res0 : Res} {w0 : World} (h : Sta (ctxD n H res0 w0 ds) l res a w) (hlp : H lp) (o : Obj) (hK : ∀ b, H b → b < (w.putObj lp o).heap.size ∧ ¬ Bof res b) : Sta (ctxD n H res (w.putObj lp o) ds) l res a (w.putObj lp o) := by
  have hst : Stay (Shr H res w) (Shr H res (w.putObj lp o)) w (w.putObj lp o) := fun b hb => ⟨⟨by simpa using hb.1, hb.2⟩, World.putObj_heap_other (fun e => hb.2.2 (e ▸ hlp))⟩
  refine ⟨h.size, h.defers, fun t e ht => ?_, fun r v c hr => (h.conts r v c hr).mono hst (fun b hb => World.putObj_heap_other (fun e => (hK lp hlp).2 ⟨r, v, c, hr, e ▸ hb⟩)), h.excl, fun r v c h b hb hk => hk.2 ⟨r, v, c, h, hb⟩, Keep.rfl', fun b hb => hb.1, hK⟩
  obtain ⟨u, h1, h2⟩ := h.slots t e ht
  exact ⟨u, h1, e.mono hst h2⟩
theorem RngJ.round {n : Nat} {R : Rep α} {p : Tmp} {assign body : Code} {Bs : σ → (Nat → Value) → Res} {Y : α → σ → Option σ} (hok : RoundOk P n R p L assign body Bs Y) (hn : Γ.n = n) (hp : Nat.blt p n = true) {a0 : Act} {H V : Blk} {lp D : Nat} {rec : Loop} {W : World} {s s' : σ} {x : α} {u : Value} {fn : Nat} {nv : Nat → Value}
    (hrec : rec = { state := .ready, pending := none, fn, tmps := a0.tmps, params := #[p], assign, body, defers := D }) (hlp : H lp) (hDp : H D) (hne : D ≠ lp)
    (hK : ∀ b, Γ.K b → b ≠ lp ∧ b ≠ D) (hold : ∀ b, Γ.K b → b < Γ.w0.heap.size) (hJ : RngJ P Γ L a0 H V lp D rec (Bs s nv) W) (hu : (Ent.rd R x).holds (Shr H (Bs s nv) W) W u) (hY : Y x s = some s') :
    YieldAt Fence.wide 0 P lp #[u] W fun e W' => e = .returned (.bool true) ∧ (∃ nv', RngJ P Γ L a0 H V lp D rec (Bs s' nv') W') ∧ Keep V W W' := by
  subst hn
  have hy := run_yield (P := P) (args := #[u]) hJ.hl (by rw [hrec]; rfl)
  refine ⟨_, _, _, _, hy, roundIn_of_wpIn trivial ?_⟩
  have htm : (rec.params.zip #[u]).foldl (fun tmps (t, a) => tmps.setIfInBounds t a) rec.tmps = a0.tmps.setIfInBounds p u := by subst hrec; simp
  rw [htm, show rec.assign = assign by rw [hrec], show rec.body = body by rw [hrec]]
  have hst := hJ.st
  have hp' : p < Γ.n := Eq.mp Nat.blt_eq hp
  have hz : a0.tmps.size = Γ.n := hst.size
  have hslots : ∀ t e, lk ((p, .rd R x) :: L) t = some e → ∃ v, (a0.tmps.setIfInBounds p u)[t]? = some v ∧ e.holds (Shr H (Bs s nv) W) W v := fun t e ht => by
    rw [lk_cons] at ht
    by_cases hh : p = t
    · subst hh
      rw [if_pos rfl] at ht; cases ht
      exact ⟨u, by rw [Array.getElem?_setIfInBounds, if_pos rfl, if_pos (by rw [hz]; exact hp')], hu⟩
    · rw [if_neg hh] at ht
      obtain ⟨v, h1, h2⟩ := hst.slots t e ht
      exact ⟨v, by rw [Array.getElem?_setIfInBounds_ne hh]; exact h1, h2⟩
  have hround : Sta (ctx Γ.n H (Bs s nv) W) ((p, .rd R x) :: L) (Bs s nv) { tmps := a0.tmps.setIfInBounds p u, defers := [] } W := hst.react (ds' := []) (by simpa using hst.size) rfl hslots
  have hready : rec.state = .ready := by rw [hrec]
  have hb := hok lp rec H W nv x s hready hlp hJ.hl _ W hround s' hY (fun a w h => absurd h.1 (by simp))
  refine wpIn_mono hb ?_
  rintro e a₁ wa ⟨rfl, w₂, hrun, hbody⟩
  refine ⟨w₂, hrun, ?_⟩
  refine wpIn_mono (hbody (fun a w h => absurd h.1 (by simp))) ?_
  rintro e a₃ W3 ⟨rfl, res2, W2, hk2, hr2, hl2, nv', hS⟩
  have hkl : (ctx Γ.n H res2 W2).K lp := hS.hid lp hlp
  have hl3 : W3.heap[lp]? = some (.loop { rec with state := .busy }) := (hS.keep.block lp hkl).trans hl2
  have hend := run_endRound (P := P) none hl3
  have hback : (Obj.loop { { rec with state := .busy } with state := if (none : Option Code).isNone = true then .ready else .done, pending := none }) = .loop rec := by rw [hrec]; rfl
  rw [hback] at hend
  have hlp3 : lp < W3.heap.size := (Array.getElem?_eq_some_iff.1 hl3).1
  have hkeep : Keep (fun b => b < W.heap.size ∧ ¬ Bof (Bs s nv) b ∧ b ≠ lp) W (W3.putObj lp (.loop rec)) := by
    refine ⟨hS.keep.os.trans hk2.os, hS.keep.tape.trans hk2.tape, hS.keep.output.trans hk2.output, ?_, fun b hb => ?_⟩
    · have := Nat.le_trans hk2.size hS.keep.size; simpa using this
    · have h1 : (ctx Γ.n H res2 W2).K b := ⟨Nat.lt_of_lt_of_le hb.1 hk2.size, hr2 b hb.1 hb.2.1⟩
      exact (World.putObj_heap_other hb.2.2).trans ((hS.keep.block b h1).trans (hk2.block b hb))
  have hnB : ∀ b, b < W.heap.size → ¬ Bof (Bs s nv) b → ¬ Bof (Bs s' nv') b := fun b h1 h2 ⟨r, v, c, h3, h4⟩ => hS.own r v c h3 b h4 ⟨Nat.lt_of_lt_of_le h1 hk2.size, hr2 b h1 h2⟩
  have hKn : ∀ b, Γ.K b → b < W.heap.size ∧ ¬ Bof (Bs s nv) b := fun b hb => ⟨Nat.lt_of_lt_of_le (hold b hb) hJ.keep.size, fun ⟨r, v, c, h1, h2⟩ => (hJ.own r v c b h1 h2).1 hb⟩
  have hVn : ∀ b, V b → b < W.heap.size ∧ ¬ Bof (Bs s nv) b := fun b hb => ⟨(hJ.vlt b hb).1, fun ⟨r, v, c, h1, h2⟩ => (hJ.own r v c b h1 h2).2 hb⟩
  have hVl : ∀ b, V b → b ≠ lp := fun b hb e => (hJ.vlt b hb).2 (e ▸ hlp)
  have hDn : D < W.heap.size ∧ ¬ Bof (Bs s nv) D := hst.hid D hDp
  have hturn := hS.turn hlp (.loop rec) (fun b hb => by
    have hk := hS.hid b hb
    exact ⟨by have := Nat.lt_of_lt_of_le hk.1 hS.keep.size; simpa using this, fun ⟨r, v, c, h1, h2⟩ => hS.own r v c h1 b h2 hk⟩)
  have hstay : Stay (Shr H (Bs s nv) W) (Shr H (Bs s' nv') (W3.putObj lp (.loop rec))) W (W3.putObj lp (.loop rec)) := fun b hb => by
    have hbn : ¬ Bof (Bs s nv) b := fun ⟨r, v, c, h1, h2⟩ => hb.2.1 r v c h1 h2
    have hbl : b ≠ lp := fun e => hb.2.2 (e ▸ hlp)
    exact ⟨⟨Nat.lt_of_lt_of_le hb.1 hkeep.size, fun r v c h1 h2 => hnB b hb.1 hbn ⟨r, v, c, h1, h2⟩, hb.2.2⟩, hkeep.block b ⟨hb.1, hbn, hbl⟩⟩
  refine ⟨_, _, hend, rfl, ⟨nv', ?_⟩, ?_⟩
  · refine ⟨hturn.react hst.size hst.defers (fun t e ht => ?_), ?_, ?_, World.putObj_heap_same hlp3, ?_, ?_⟩
    · obtain ⟨v, h1, h2⟩ := hst.slots t e ht
      exact ⟨v, h1, e.mono hstay h2⟩
    · exact hJ.keep.tr hkeep (fun b hb => ⟨(hKn b hb).1, (hKn b hb).2, (hK b hb).1⟩)
    · intro r v c b h1 h2
      exact ⟨fun hb => hnB b (hKn b hb).1 (hKn b hb).2 ⟨r, v, c, h1, h2⟩, fun hb => hnB b (hVn b hb).1 (hVn b hb).2 ⟨r, v, c, h1, h2⟩⟩
    · exact (hkeep.block D ⟨hDn.1, hDn.2, hne⟩).trans hJ.hD
    · exact fun b hb => ⟨Nat.lt_of_lt_of_le (hVn b hb).1 hkeep.size, (hJ.vlt b hb).2⟩
  · exact ⟨hkeep.os, hkeep.tape, hkeep.output, hkeep.size, fun b hb => hkeep.block b ⟨(hVn b hb).1, (hVn b hb).2, hVl b hb⟩⟩
end
end
section
open Go Go.RowKit
section
variable {P : Program} {ops : Array Oper} {Q : Exit → Act → World → Prop}
end
structure IEnv (P : Program) {α : Type} (R : Rep α) (σ : Type) where
  Y : α → σ → Option σ
  J : Blk → σ → World → Prop
  l : Nat
  hV : ∀ V s W, J V s W → ∀ b, V b → b < W.heap.size
  hext : ∀ V s W W', J V s W → Ext W W' → J (Since V W W') s W'
  round : ∀ V s s' x u W, Y x s = some s' → J V s W → (Ent.rd R x).holds V W u → YieldAt Fence.wide 0 P l #[u] W fun e W' => e = .returned (.bool true) ∧ J V s' W' ∧ Keep V W W'
section
variable {P : Program} {α σ ρ : Type} {R : Rep α}
def endI (P : Program) (fn : Func) (E : IEnv P R σ) : σ → Exit → Act → World → Prop := fun s' => bodyPost P fn (fun e W' => (∃ v, e = .returned v) ∧ ∃ V, E.J V s' W')
variable {E : IEnv P R σ} {V : Blk} {W : World} {l : Slots} {res : Res} {n : Nat} {s : σ}
def OutF {ρ : Type} (Q : ρ → Exit → Act → World → Prop) : Prop := ∀ r a w, ¬ Q r .outgrown a w
variable {Q : ρ → Exit → Act → World → Prop}
theorem out_then {ro : Option Nat} {y : Code} (h : OutF Q) : OutF (thenQ ro P y Q) := h
theorem out_blk {i : Nat} (h : OutF Q) : OutF (blkQ i Q) := h
theorem out_mid {τ : Type} {Bs : τ → Asn} : OutF (midQ Bs) := fun r a w h => absurd h.1 (by simp)
theorem out_midR {τ : Type} {Bs : τ → Asn} (h : OutF Q) : OutF (midR Bs Q) := fun r a w hh => by
  cases r with
  | inl r => exact h _ _ _ hh.2
  | inr t => exact absurd hh.1 (by simp)
theorem out_loop {β τ : Type} {i : Nat} {As : τ → Asn} {M : β → Exit → Act → World → Prop} (h : OutF M) : OutF (loopQ i As M) := fun r a w hh => by
  cases r with
  | inl r => exact h _ _ _ hh.2
  | inr t => exact absurd hh.1 (by simp)
theorem out_endI {fn : Func} : OutF (endI P fn E) := fun r a w h => by
  obtain ⟨⟨v, h⟩, -⟩ : ((∃ v, Ending.outgrown = .returned v) ∧ ∃ V, E.J V r w) := h
  cases h
class OutC {ρ : Type} (Q : ρ → Exit → Act → World → Prop) : Prop where
  out : OutF Q
instance outc_then {ro : Option Nat} {y : Code} [h : OutC Q] : OutC (thenQ ro P y Q) := ⟨out_then h.out⟩
instance outc_blk {i : Nat} [h : OutC Q] : OutC (blkQ i Q) := ⟨out_blk h.out⟩
instance outc_mid {τ : Type} {Bs : τ → Asn} : OutC (midQ Bs) := ⟨out_mid⟩
instance outc_midR {τ : Type} {Bs : τ → Asn} [h : OutC Q] : OutC (midR Bs Q) := ⟨out_midR h.out⟩
instance outc_loop {β τ : Type} {i : Nat} {As : τ → Asn} {M : β → Exit → Act → World → Prop} [h : OutC M] : OutC (loopQ i As M) := ⟨out_loop h.out⟩
instance outc_endI {fn : Func} : OutC (endI P fn E) := ⟨out_endI⟩
end
section
variable {C : World → World → Prop} {P : Program} {Γ : Ctx} {l : Slots} {res : Res} {d : Tmp} {ty : TypeId} {pos : String} {after : Array Edge} {g : Option (Nat × Bool)}
end
end
section
open Go Go.RowKit
def rawR : Rep Value where
  sz := 1
  agg := false
  rel _ _ cs x := cs = [x] ∧ x.oneCell' = true
  len h := by rw [h.1]; rfl
  one h := by rw [h.1]; intro u hu; simp only [List.mem_singleton] at hu; subst hu; exact h.2
  scal _ := rfl
  mono _ h := h
def fvals {α : Type} (vs : Nat → Value) (ls : List (List α)) : List Value := (List.range ls.length).map vs
def famR {α : Type} (base : Nat) (R : Rep α) (T : TypeId) (vs : Nat → Value) : List (List α) → Nat → Res
  | [], _ => []
  | x :: ls, j => (base + j, some (vs j, .list R T x)) :: famR base R T vs ls (j + 1)
def updF (vs : Nat → Value) (j : Nat) (u : Value) : Nat → Value := fun i => if i = j then u else vs i
def nvlF : List Value → (Nat → Value) → Nat → Value
  | [], vs => vs
  | a :: l, vs => fun
    | 0 => a
    | n + 1 => nvlF l vs n
section
variable {α : Type} {base : Nat} {R : Rep α} {T : TypeId} {vs : Nat → Value}
theorem fam_get : ∀ {ls : List (List α)} {i j : Nat}, lr (famR base R T vs ls i) (base + (i + j)) = ls[j]?.map fun x => (vs (i + j), .list R T x)
  | [], i, j => rfl
  | x :: ls, i, 0 => by
    rw [famR, lr_cons, if_pos (by omega)]; rfl
  | x :: ls, i, j + 1 => by
    rw [famR, lr_cons, if_neg (by omega)]
    have := @fam_get ls (i + 1) j
    rw [show i + (j + 1) = i + 1 + j by omega, this]; simp
theorem fam_inv : ∀ {ls : List (List α)} {i k : Nat} {x : Value × Cont}, lr (famR base R T vs ls i) k = some x → ∃ j y, k = base + (i + j) ∧ ls[j]? = some y ∧ x = (vs (i + j), .list R T y)
  | [], i, k, x, h => by cases h
  | y :: ls, i, k, x, h => by
    rw [famR, lr_cons] at h
    split at h
    · rename_i hk; cases h; exact ⟨0, y, by omega, rfl, rfl⟩
    · obtain ⟨j, z, h1, h2, h3⟩ := fam_inv h
      exact ⟨j + 1, z, by omega, by simpa using h2, by rw [h3, show i + 1 + j = i + (j + 1) by omega]⟩
theorem lr_app {pre f : Res} {k : Nat} {x : Value × Cont} (h : lr (pre ++ f) k = some x) (hp : ∀ p ∈ pre, p.2 ≠ none) : lr pre k = some x ∨ ((∀ p ∈ pre, p.1 ≠ k) ∧ lr f k = some x) := by
  induction pre with
  | nil => exact .inr ⟨by simp, h⟩
  | cons p pre ih =>
    obtain ⟨q, y⟩ := p
    rw [List.cons_append, lr_cons] at h
    rw [lr_cons]
    split at h
    · rename_i hq; rw [if_pos hq]; exact .inl h
    · rename_i hq
      rw [if_neg hq]
      rcases ih h (fun p hp' => hp p (by simp [hp'])) with h1 | ⟨h1, h2⟩
      · exact .inl h1
      · refine .inr ⟨fun p hp' => ?_, h2⟩
        rcases List.mem_cons.1 hp' with rfl | h3
        · exact hq
        · exact h1 p h3
def HasFam (res : Res) (base : Nat) (R : Rep α) (T : TypeId) (vs : Nat → Value) (ls : List (List α)) : Prop := ∀ j y, ls[j]? = some y → lr res (base + j) = some (vs j, .list R T y)
theorem HasFam.tail {ls : List (List α)} : HasFam (famR base R T vs ls 0) base R T vs ls := fun j y h => by
  have := fam_get (base := base) (R := R) (T := T) (vs := vs) (ls := ls) (i := 0) (j := j)
  rw [Nat.zero_add] at this
  rw [this, h]; rfl
theorem HasFam.cons {res : Res} {k : Nat} {x : Option (Value × Cont)} {ls : List (List α)} (hk : Nat.blt k base = true) (h : HasFam res base R T vs ls) : HasFam ((k, x) :: res) base R T vs ls := fun j y hj => by
  have hk : k < base := Eq.mp Nat.blt_eq hk
  rw [lr_cons, if_neg (by omega)]; exact h j y hj
theorem idx_fam {ls : List (List α)} {i : Int} {y : List α} (h : idx ls i = some y) : idx (fvals vs ls) i = some (vs i.toNat) := by
  obtain ⟨h0, h2, hlt⟩ := idx_some h
  have h0' : (0 : Int) ≤ i := h0
  unfold idx
  rw [if_pos h0']
  unfold fvals
  rw [List.getElem?_map, List.getElem?_range hlt]; rfl
theorem fvals_set {ls : List (List α)} {j : Nat} {u : Value} {z : List α} : (fvals vs ls).set j u = fvals (updF vs j u) (ls.set j z) := by
  unfold fvals updF
  apply List.ext_getElem?
  intro i
  rw [List.getElem?_set, List.getElem?_map, List.length_map, List.length_range, List.length_set]
  by_cases hi : i < ls.length
  · rw [List.getElem?_map, List.getElem?_range hi]
    by_cases h : j = i
    · subst h; simp [hi]
    · simp [h, Ne.symm h]
  · have h1 : ¬ i < (List.range ls.length).length := by simpa using hi
    rw [List.getElem?_map, List.getElem?_eq_none (by omega)]
    split
    · rename_i h; subst h; rw [if_neg hi]; rfl
    · rfl
theorem mkn_nil {by_ : Nat} {n : Int} {ls : List (List α)} (h : mkn by_ ([] : List α) n = some ls) : ∀ x ∈ ls, x = [] := fun x hx => by
  obtain ⟨-, -, -, rfl⟩ := mkn_some h
  exact (List.mem_replicate.1 hx).2
end
section
variable {P : Program} {Γ : Ctx} {l l' : Slots} {res res' lits : Res} {a : Act} {w : World} {α : Type} {base : Nat} {R : Rep α} {T T' : TypeId} {vs : Nat → Value} {ls : List (List α)}
theorem Sta.subG (ha : Sta Γ l res a w) (h1 : ∀ r x, lr res' r = some x → ∃ n, lr res n = some x) (h2 : ∀ r r2 x x2, lr res' r = some x → lr res' r2 = some x2 → r ≠ r2 → ∃ n n2, n ≠ n2 ∧ lr res n = some x ∧ lr res n2 = some x2) (hs : ∀ t e, lk l' t = some e → lk l t = some e) : Sta Γ l' res' a w := by
  have hst : Stay (Shr Γ.H res w) (Shr Γ.H res' w) w w := fun b hb => ⟨⟨hb.1, fun r v c hr => by obtain ⟨n, h⟩ := h1 _ _ hr; exact hb.2.1 n v c h, hb.2.2⟩, rfl⟩
  exact {
    size := ha.size
    defers := ha.defers
    slots := fun t e ht => by obtain ⟨v, k1, k2⟩ := ha.slots t e (hs t e ht); exact ⟨v, k1, e.mono hst k2⟩
    conts := fun r v c h => by obtain ⟨n, k1⟩ := h1 _ _ h; exact (ha.conts n v c k1).mono hst (fun _ _ => rfl)
    excl := fun r v c r' v' c' h h' hne => by obtain ⟨n, n2, k1, k2, k3⟩ := h2 _ _ _ _ h h' hne; exact ha.excl n v c n2 v' c' k2 k3 k1
    own := fun r v c h => by obtain ⟨n, k1⟩ := h1 _ _ h; exact ha.own n v c k1
    keep := ha.keep
    old := ha.old
    hid := ha.hid }
theorem SubR.get3 {res : Res} : ∀ {res' : Res} {ns : List Nat} {r r2 : Nat} {x x2 : Value × Cont}, SubR res res' ns → lr res' r = some x → lr res' r2 = some x2 → r ≠ r2 → ∃ n n2, n ∈ ns ∧ n2 ∈ ns ∧ n ≠ n2 ∧ lr res n = some x ∧ lr res n2 = some x2
  | [], [], _, _, _, _, _, h, _, _ => by cases h
  | (r', y) :: res', n :: ns, r, r2, x, x2, hs, h, h', hne => by
    rw [lr_cons] at h h'
    obtain ⟨⟨y, rfl, h1⟩, h2, h3⟩ := hs
    have hn : ∀ n', n' ∈ ns → n ≠ n' := fun n' hn' e => by subst e; simp at h2; exact h2 hn'
    split at h
    · rename_i e1; subst e1; cases h
      rw [if_neg hne] at h'
      obtain ⟨v2, c2⟩ := x2
      obtain ⟨n', h4, h5⟩ := SubR.get h3 h'
      exact ⟨n, n', by simp, by simp [h4], hn n' h4, h1, h5⟩
    · split at h'
      · cases h'
        obtain ⟨v, c⟩ := x
        obtain ⟨n', h4, h5⟩ := SubR.get h3 h
        exact ⟨n', n, by simp [h4], by simp, fun e => hn n' h4 e.symm, h5, h1⟩
      · obtain ⟨n1, n2, i1, i2, k1, k2, k3⟩ := SubR.get3 h3 h h' hne
        exact ⟨n1, n2, by simp [i1], by simp [i2], k1, k2, k3⟩
  | [], _ :: _, _, _, _, _, hs, _, _, _ => hs.elim
  | _ :: _, [], _, _, _, _, hs, _, _, _ => hs.elim
theorem SubR.somes : ∀ {res' : Res} {ns : List Nat}, SubR res res' ns → ∀ p ∈ res', p.2 ≠ none
  | [], [], _, p, hp => by simp at hp
  | (r, x) :: res', n :: ns, h, p, hp => by
    rcases List.mem_cons.1 hp with rfl | hp
    · obtain ⟨⟨y, rfl, _⟩, _⟩ := h; simp
    · exact SubR.somes h.2.2 p hp
  | [], _ :: _, h, _, _ => h.elim
  | _ :: _, [], h, _, _ => h.elim
theorem Sta.subF (ha : Sta Γ l res a w) (hf : HasFam res base R T vs ls) (ns : List Nat) (hs : SubS l l') (hr : SubR res lits ns) (hn : (ns.all fun n => Nat.blt n base) = true) : Sta Γ l' (lits ++ famR base R T vs ls 0) a w := by
  have hb : ∀ n ∈ ns, n < base := fun n h => Eq.mp Nat.blt_eq (List.all_eq_true.1 hn n h)
  have inv : ∀ r x, lr (lits ++ famR base R T vs ls 0) r = some x → lr lits r = some x ∨ ∃ j, r = base + j ∧ lr res (base + j) = some x := fun r x h => by
    rcases lr_app h hr.somes with h | ⟨-, h⟩
    · exact .inl h
    · obtain ⟨j, y, h3, h4, h5⟩ := fam_inv h
      rw [Nat.zero_add] at h3 h5
      exact .inr ⟨j, h3, by rw [h5]; exact hf j y h4⟩
  refine ha.subG (fun r x h => ?_) (fun r r2 x x2 h h2 hne => ?_) (fun t e h => hs.get h)
  · rcases inv r x h with h | ⟨j, h3, h4⟩
    · obtain ⟨v, c⟩ := x
      obtain ⟨n, -, h1⟩ := hr.get h; exact ⟨n, h1⟩
    · exact ⟨_, h4⟩
  · obtain ⟨v, c⟩ := x
    obtain ⟨v2, c2⟩ := x2
    rcases inv r _ h with h | ⟨j, h3, h4⟩ <;> rcases inv r2 _ h2 with h2 | ⟨j2, h5, h6⟩
    · exact hr.get2 h h2 hne
    · obtain ⟨n, h7, h8⟩ := hr.get h
      exact ⟨n, _, by have := hb n h7; omega, h8, h6⟩
    · obtain ⟨n, h7, h8⟩ := hr.get h2
      exact ⟨_, n, by have := hb n h7; omega, h4, h8⟩
    · exact ⟨_, _, by omega, h4, h6⟩
theorem Sta.newF (ha : Sta Γ l res a w) (R : Rep α) (T : TypeId) (ns : List Nat) (hl : ∀ x ∈ ls, x = []) (hr : SubR res lits ns) : Sta Γ l (lits ++ famR base R T (fun _ => .slice none 0 0) ls 0) a w := by
  have ha' : Sta Γ l lits a w := ha.subG (fun r x h => by obtain ⟨v, c⟩ := x; obtain ⟨n, -, h1⟩ := hr.get h; exact ⟨n, h1⟩) (fun r r2 x x2 h h2 hne => hr.get2 h h2 hne) (fun _ _ h => h)
  have hst : Stay (Shr Γ.H lits w) (Shr Γ.H (lits ++ famR base R T (fun _ => .slice none 0 0) ls 0) w) w w := fun b hb => ⟨⟨hb.1, fun r v c h => by
    rcases lr_app h hr.somes with h | ⟨-, h⟩
    · exact hb.2.1 r v c h
    · obtain ⟨j, y, -, -, h5⟩ := fam_inv h
      simp only [Prod.mk.injEq] at h5
      rw [h5.1]; simp [rblk], hb.2.2⟩, rfl⟩
  exact {
    size := ha.size
    defers := ha.defers
    slots := fun t e ht => by obtain ⟨v, k1, k2⟩ := ha'.slots t e ht; exact ⟨v, k1, e.mono hst k2⟩
    conts := fun r v c h => by
      rcases lr_app h hr.somes with h | ⟨-, h⟩
      · exact (ha'.conts r v c h).mono hst (fun _ _ => rfl)
      · obtain ⟨j, y, -, h4, h5⟩ := fam_inv h
        simp only [Prod.mk.injEq] at h5
        rw [h5.1, h5.2]
        exact .inl ⟨rfl, hl y (List.mem_of_getElem? h4)⟩
    excl := fun r v c r' v' c' h h' hne b hb => by
      rcases lr_app h hr.somes with h | ⟨-, h⟩
      · rcases lr_app h' hr.somes with h' | ⟨-, h'⟩
        · exact ha'.excl r v c r' v' c' h h' hne b hb
        · obtain ⟨j, y, -, -, h5⟩ := fam_inv h'
          simp only [Prod.mk.injEq] at h5
          rw [h5.1]; simp [rblk]
      · obtain ⟨j, y, -, -, h5⟩ := fam_inv h
        simp only [Prod.mk.injEq] at h5
        rw [h5.1] at hb; simp [rblk] at hb
    own := fun r v c h b hb => by
      rcases lr_app h hr.somes with h | ⟨-, h⟩
      · exact ha'.own r v c h b hb
      · obtain ⟨j, y, -, -, h5⟩ := fam_inv h
        simp only [Prod.mk.injEq] at h5
        rw [h5.1] at hb; simp [rblk] at hb
    keep := ha.keep
    old := ha.old
    hid := ha.hid }
theorem Sta.frzFam (ha : Sta Γ l res a w) (hf : HasFam res base R T vs ls) {v : Value} (r : Nat) (hr : lr res r = some (v, .list rawR T' (fvals vs ls))) (ns : List Nat) (hs : SubR res lits ns) (hn : (ns.all fun n => Nat.blt n base && !Nat.beq n r) = true) (hrb : Nat.blt r base = true) : Sta Γ l ((r, some (v, .list (sliceR R) T' ls)) :: lits) a w := by
  have hb : ∀ n ∈ ns, n < base ∧ n ≠ r := fun n h => by
    have := List.all_eq_true.1 hn n h
    simp only [Bool.and_eq_true, Bool.not_eq_true'] at this
    exact ⟨Eq.mp Nat.blt_eq this.1, Nat.ne_of_beq_eq_false this.2⟩
  have hrb : r < base := Eq.mp Nat.blt_eq hrb
  have hst : Stay (Shr Γ.H res w) (Shr Γ.H ((r, some (v, .list (sliceR R) T' ls)) :: lits) w) w w := fun b hb' => ⟨⟨hb'.1, fun r' v' c' h => by
    rw [lr_cons] at h
    split at h
    · cases h; exact hb'.2.1 r v _ hr
    · obtain ⟨n, -, h1⟩ := hs.get h; exact hb'.2.1 n v' c' h1, hb'.2.2⟩, rfl⟩
  have hin : ∀ j y, ls[j]? = some y → ∀ b, rblk (vs j) = some b → Shr Γ.H ((r, some (v, .list (sliceR R) T' ls)) :: lits) w b := fun j y hy b hbb => by
    have h1 := hf j y hy
    refine ⟨(ha.conts _ _ _ h1).lt hbb, fun r' v' c' h => ?_, fun hH => ha.own _ _ _ h1 b hbb (ha.hid b hH)⟩
    rw [lr_cons] at h
    split at h
    · cases h; exact ha.excl _ _ _ r v _ h1 hr (by omega) b hbb
    · obtain ⟨n, h2, h3⟩ := hs.get h; exact ha.excl _ _ _ n v' c' h1 h3 (by have := hb n h2; omega) b hbb
  have hrel : ∀ (ls2 : List (List α)) (k : Nat) (cs : List Value), (∀ j y, ls2[j]? = some y → ls[k + j]? = some y) → relL rawR (Shr Γ.H res w) w cs ((List.range' k ls2.length).map vs) → relL (sliceR R) (Shr Γ.H ((r, some (v, .list (sliceR R) T' ls)) :: lits) w) w cs ls2 := by
    intro ls2
    induction ls2 with
    | nil => intro k cs _ h; exact h
    | cons y ls2 ih =>
      intro k cs hk h
      rw [List.length_cons, List.range'_succ, List.map_cons] at h
      obtain ⟨c, d, rfl, ⟨rfl, -⟩, h2⟩ := h
      have hy := hk 0 y rfl
      rw [Nat.add_zero] at hy
      refine ⟨[vs k], d, rfl, ?_, ih (k + 1) d (fun j z hz => ?_) h2⟩
      · obtain ⟨xs, k1, k2⟩ := list_owns (ha.conts _ _ _ (hf k y hy))
        obtain ⟨p, c, hp⟩ := slice_form k1
        rw [hp] at k1
        refine ⟨p, c, xs, by rw [hp], Rd.of_own k1, k2.mono hst, fun hne bb hbb => ?_⟩
        refine hin k y hy bb ?_
        rw [hp, rblk_own, sblk_own]; exact hbb
      · have := hk (j + 1) z (by simpa using hz)
        rwa [show k + (j + 1) = k + 1 + j by omega] at this
  exact {
    size := ha.size
    defers := ha.defers
    slots := fun t e ht => by obtain ⟨u, k1, k2⟩ := ha.slots t e ht; exact ⟨u, k1, e.mono hst k2⟩
    conts := fun r' v' c' h => by
      rw [lr_cons] at h
      split at h
      · cases h
        rcases ha.conts r v _ hr with ⟨h1, h2⟩ | ⟨b, o, h1, h2, b', cap, C, rfl, rfl, h3, h4, h5, h6⟩
        · exact .inl ⟨h1, by
            have : (fvals vs ls).length = 0 := by rw [h2]; rfl
            unfold fvals at this
            simpa using this⟩
        · have hl : (fvals vs ls).length = ls.length := by simp [fvals]
          refine .inr ⟨b, _, h1, h2, b', cap, C, by rw [hl], rfl, by rw [← hl]; exact h3, h4, h5, ?_⟩
          rw [hl] at h6
          refine hrel ls 0 _ (fun j y hy => by rw [Nat.zero_add]; exact hy) ?_
          rw [← List.range_eq_range']
          exact h6
      · obtain ⟨n, -, h1⟩ := hs.get h
        exact (ha.conts n v' c' h1).mono hst (fun _ _ => rfl)
    excl := fun r1 v1 c1 r2 v2 c2 h1 h2 hne b hbb => by
      rw [lr_cons] at h1 h2
      split at h1
      · rename_i e1; cases h1
        rw [if_neg (by rw [e1]; exact hne)] at h2
        obtain ⟨n, h3, h4⟩ := hs.get h2
        exact ha.excl r v _ n v2 c2 hr h4 (fun e => (hb n h3).2 e.symm) b hbb
      · split at h2
        · cases h2
          obtain ⟨n, h3, h4⟩ := hs.get h1
          exact ha.excl n v1 c1 r v _ h4 hr (hb n h3).2 b hbb
        · obtain ⟨n, n2, h3, h4, h5⟩ := hs.get2 h1 h2 hne
          exact ha.excl n v1 c1 n2 v2 c2 h4 h5 h3 b hbb
    own := fun r' v' c' h => by
      rw [lr_cons] at h
      split at h
      · cases h; exact ha.own r v _ hr
      · obtain ⟨n, -, h1⟩ := hs.get h; exact ha.own n v' c' h1
    keep := ha.keep
    old := ha.old
    hid := ha.hid }
end
section
variable {C : World → World → Prop} {ρ : Type} {P : Program} {Γ : Ctx} {l : Slots} {res lits : Res} {m : Option ρ} {os rest : List Oper} {N : ρ → Exit → Act → World → Prop} {ro : Option Nat} {Q : ρ → Exit → Act → World → Prop} {c : Code} {ex : Exit}
  {d : Tmp} {ty : TypeId} {pos : String} {after : Array Edge} {g : Option (Nat × Bool)} {α : Type} {base : Nat} {R : Rep α} {T T' : TypeId} {vs : Nat → Value} {ls : List (List α)}
theorem mksF {b : List (List α)} {x y : Operand} {z : Value} {e : TypeId} {by_ : Nat} {n : Int} (r : Nat) (hx : opE l x = some (.rd i64R n)) (hy : opE l y = some (.rd i64R n)) (hb : mkn by_ ([] : List α) n = some b)
    (hT : P.underlying T = some (.slice e)) (hE : TI P e z 1 by_) (hz : z.cells.toList = [.slice none 0 0]) :
    Eff P Γ l res ⟨some d, .makeSlice T x y, ty, pos, after, g⟩ r (fun u => (u, .list rawR e (fvals (fun _ => .slice none 0 0) b))) := by
  obtain ⟨h1, h2, h3, rfl⟩ := mkn_some hb
  have e1 : fvals (fun _ => Value.slice none 0 0) (List.replicate n.toNat ([] : List α)) = List.replicate n.toNat (Value.slice none 0 0) := by
    unfold fvals
    rw [List.length_replicate]
    apply List.ext_getElem?
    intro i
    rw [List.getElem?_map]
    by_cases hi : i < n.toNat
    · rw [List.getElem?_range hi]; simp [hi]
    · rw [List.getElem?_eq_none (by simpa using hi), List.getElem?_eq_none (by simpa using hi)]; rfl
  rw [e1]
  refine mks (R := rawR) (x0 := .slice none 0 0) (z := z) r hx hy ?_ hT hE (fun S w => ⟨hz, rfl⟩) rfl
  unfold mkn; rw [if_pos ⟨h1, h2, by omega⟩]
theorem lNewF (R : Rep α) (T : TypeId) (ns : List Nat) (hl : ∀ x ∈ ls, x = []) (hr : SubR res lits ns) (k : GL P os (Sta Γ l (lits ++ famR base R T (fun _ => .slice none 0 0) ls 0)) rest N m) : GL P os (Sta Γ l res) rest N m := fun a w ha => k a w (ha.newF R T ns hl hr)
theorem ldF {ws : List Nat} [LC C res ws] {y : List α} {i : Int} {t : TypeId} {x : Operand} {v : Value} (r : Nat) (hx : opE l x = some (.val (ptrTo v (i.toNat * 1)))) (hr : lr res r = some (v, .list rawR T' (fvals vs ls))) (hi : idx ls i = some y) (hT : TyIs P t false 1) (hw : ws.contains r = false) :
    Run C P Γ l res ⟨some d, .load t x, ty, pos, after, g⟩ (.val (vs i.toNat)) := fun a w ha => by
  obtain ⟨u, h1, cs, ⟨rfl, h2⟩, h3⟩ := ld (C := C) (P := P) (d := d) (ty := ty) (pos := pos) (after := after) (g := g) (R := rawR) (t := t) r hx hr (Foc.el (idx_fam hi)) hT hw a w ha
  exact ⟨u, h1, h3, h2⟩
theorem lApF {d1 d2 : Tmp} {ty1 ty2 ty3 : TypeId} {pos1 pos2 pos3 : String} {af1 af2 af3 : Array Edge} {x y b i : Operand} {v : Value} {E : Ent} {TT e : TypeId} {by_ by2 : Nat} {je : Int} {yl b2 z : List α} {kk : IntKind} {γ : Type} {f : γ → Int} {jj : γ} {zv zv2 : Value} (r : Nat) (ns : List Nat)
    (hf : HasFam res base R e vs ls) (hx : opE l x = some (.val (vs je.toNat))) (hr : lr res r = some (v, .list rawR T (fvals vs ls))) (hrb : Nat.blt r base = true) (hi : idx ls je = some yl) (hb : opE l b = some (.val v)) (hii : opE l i = some (.rd (numR kk f) jj)) (hje : f jj = je) (hy : opE l y = some E) (hv : Vw R res E b2) (hz : app by_ yl b2 = some z)
    (hdd : Nat.beq d1 d2 = false) (hbt : ∀ t, b = .tmp t → Nat.beq d1 t = false) (hit : ∀ t, i = .tmp t → Nat.beq d1 t = false) (h1n : Nat.blt d1 Γ.n = true) (h2n : Nat.blt d2 Γ.n = true)
    (hT : P.underlying T = some (.slice e)) (hE : TI P e zv R.sz by_) (hzs : zv.cells.size = R.sz) (h0 : Nat.blt 0 R.sz = true) (h1 : Nat.blt 0 by_ = true) (hTT : P.underlying TT = some (.slice T)) (hET : TI P T zv2 1 by2) (hTy : TyIs P T false 1)
    (hs : SubR res lits ns) (hn : (ns.all fun n => Nat.blt n base && !Nat.beq n r) = true)
    (k : ∀ u, GL P os (Sta Γ ((d1, .junk) :: (d2, .junk) :: l) (((r, some (v, .list rawR T (fvals (updF vs je.toNat u) (ls.set je.toNat z)))) :: lits) ++ famR base R e (updF vs je.toNat u) (ls.set je.toNat z) 0)) rest N m) :
    GL P os (Sta Γ l res) (⟨some d1, .call ⟨.builtin .append, #[x, y], #[T, T]⟩, ty1, pos1, af1, none⟩ :: ⟨some d2, .indexAddr TT b i, ty2, pos2, af2, none⟩ :: ⟨none, .store T (.tmp d2) (.tmp d1), ty3, pos3, af3, none⟩ :: rest) N m := fun a w ha ρ' hm => by
  have hrb : r < base := Eq.mp Nat.blt_eq hrb
  obtain ⟨i0, hyl, hlt⟩ := idx_some hi
  have hfj := hf je.toNat yl hyl
  obtain ⟨w1, u, e1, ⟨s1, -⟩, o1, -⟩ := app0 (d := d1) (ty := ty1) (pos := pos1) (after := af1) (g := none) ha (base + je.toNat) hx hfj hy hv hz hT hE hzs h0 h1
  refine st (g_none rfl) e1 ?_
  have s1' := s1.put h1n (show (Ent.val u).holds _ w1 u from ⟨rfl, o1⟩)
  have hr1 : lr ((base + je.toNat, some (u, Cont.list R e z)) :: res) r = some (v, .list rawR T (fvals vs ls)) := by rw [lr_cons, if_neg (by omega)]; exact hr
  have hb1 : opE ((d1, .val u) :: l) b = some (.val v) := by
    cases b with
    | tmp t => show lk _ t = _; rw [lk_cons, if_neg (Nat.ne_of_beq_eq_false (hbt t rfl))]; exact hb
    | const c => exact hb
    | global c => exact hb
    | func c => exact hb
  have hi1 : opE ((d1, .val u) :: l) i = some (.rd (numR kk f) jj) := by
    cases i with
    | tmp t => show lk _ t = _; rw [lk_cons, if_neg (Nat.ne_of_beq_eq_false (hit t rfl))]; exact hii
    | const c => exact hii
    | global c => exact hii
    | func c => exact hii
  obtain ⟨p2, e2, k2⟩ := ixO (C := Eq) (P := P) (d := d2) (ty := ty2) (pos := pos2) (after := af2) (g := none) (R := rawR) (y := vs je.toNat) r hb1 hr1 hi1 (by rw [hje]; exact idx_fam hi) hTT hET _ w1 s1'
  refine st (g_none rfl) (e2 w1 rfl) ?_
  have s2 := s1'.put h2n k2
  rw [hje] at s2
  have hx2 : opE ((d2, .val (ptrTo v (je.toNat * rawR.sz))) :: (d1, .val u) :: l) (.tmp d2) = some (.val (ptrTo v (je.toNat * rawR.sz))) := by show lk _ d2 = _; rw [lk_cons, if_pos rfl]
  have s3 : Sta Γ ((d1, .rd rawR u) :: (d2, .val (ptrTo v (je.toNat * rawR.sz))) :: (d1, .val u) :: l) ((base + je.toNat, some (u, Cont.list R e z)) :: res) ((a.put (some d1) u).put (some d2) p2) w1 := by
    refine { s2 with slots := fun t' e' ht' => ?_ }
    rw [lk_cons] at ht'
    split at ht'
    · rename_i hh; subst hh; cases ht'
      obtain ⟨u', h3, rfl, h5⟩ := s2.slots d1 (.val u) (by rw [lk_cons, if_neg (fun e => Nat.ne_of_beq_eq_false hdd e.symm), lk_cons, if_pos rfl])
      exact ⟨_, h3, [u'], ⟨rfl, o1⟩, rfl⟩
    · exact s2.slots t' e' ht'
  have hx3 : opE ((d1, .rd rawR u) :: (d2, .val (ptrTo v (je.toNat * rawR.sz))) :: (d1, .val u) :: l) (.tmp d2) = some (.val (ptrTo v (je.toNat * rawR.sz))) := by show lk _ d2 = _; rw [lk_cons, if_neg (Nat.ne_of_beq_eq_false hdd)]; exact hx2
  have hy3 : opE ((d1, .rd rawR u) :: (d2, .val (ptrTo v (je.toNat * rawR.sz))) :: (d1, .val u) :: l) (.tmp d1) = some (.rd rawR u) := by show lk _ d1 = _; rw [lk_cons, if_pos rfl]
  obtain ⟨w4, e4, ⟨s4, -⟩, -⟩ := sto' (ty := ty3) (pos := pos3) (after := af3) (g := none) (t := T) s3 r hx3 hr1 (Foc.el (idx_fam hi)) hy3 hET
  refine st0 (g_none rfl) e4 rfl ?_
  refine k u _ w4 ?_ ρ' hm
  have hb' : ∀ n ∈ ns, n < base ∧ n ≠ r := fun n h => by
    have := List.all_eq_true.1 hn n h
    simp only [Bool.and_eq_true, Bool.not_eq_true'] at this
    exact ⟨Eq.mp Nat.blt_eq this.1, Nat.ne_of_beq_eq_false this.2⟩
  have get : ∀ r' x', lr (((r, some (v, .list rawR T (fvals (updF vs je.toNat u) (ls.set je.toNat z)))) :: lits) ++ famR base R e (updF vs je.toNat u) (ls.set je.toNat z) 0) r' = some x' → ∃ n, lr ((r, some (v, Cont.list rawR T ((fvals vs ls).set je.toNat u))) :: (base + je.toNat, some (u, Cont.list R e z)) :: res) n = some x' ∧ ((r' = r ∧ n = r) ∨ (r' ≠ r ∧ lr lits r' = some x' ∧ n ∈ ns) ∨ (r' = n ∧ base ≤ n)) := fun r' x' h => by
    have hsm : ∀ p ∈ ((r, some (v, Cont.list rawR T (fvals (updF vs je.toNat u) (ls.set je.toNat z)))) :: lits : Res), p.2 ≠ none := fun p hp => by
      rcases List.mem_cons.1 hp with rfl | hp
      · simp
      · exact hs.somes p hp
    rcases lr_app h hsm with h | ⟨-, h⟩
    · rw [lr_cons] at h
      split at h
      · rename_i e'
        refine ⟨r, ?_, .inl ⟨e'.symm, rfl⟩⟩
        rw [lr_cons, if_pos rfl, ← h, fvals_set (z := z)]
      · rename_i e'
        obtain ⟨v', c'⟩ := x'
        obtain ⟨n, h5, h6⟩ := hs.get h
        have h7 := hb' n h5
        refine ⟨n, ?_, .inr (.inl ⟨fun e => e' e.symm, h, h5⟩)⟩
        rw [lr_cons, if_neg (fun e => h7.2 e.symm), lr_cons, if_neg (by omega)]; exact h6
    · obtain ⟨j, q, h5, h6, h7⟩ := fam_inv h
      rw [Nat.zero_add] at h5 h7
      refine ⟨base + j, ?_, .inr (.inr ⟨h5, by omega⟩)⟩
      rw [lr_cons, if_neg (by omega), lr_cons, h7]
      by_cases hj : je.toNat = j
      · subst hj
        rw [if_pos rfl]
        rw [List.getElem?_set_self hlt] at h6
        cases h6
        simp [updF]
      · rw [if_neg (by omega)]
        rw [List.getElem?_set_ne hj] at h6
        rw [hf j q h6]
        simp [updF, Ne.symm hj]
  have s5 : Sta Γ ((d1, .junk) :: (d2, .junk) :: l) ((r, some (v, Cont.list rawR T ((fvals vs ls).set je.toNat u))) :: (base + je.toNat, some (u, Cont.list R e z)) :: res) ((a.put (some d1) u).put (some d2) p2) w4 := by
    refine { s4 with slots := fun t' e' ht' => ?_ }
    rw [lk_cons] at ht'
    split at ht'
    · rename_i hh; subst hh; cases ht'
      obtain ⟨u', h3, _⟩ := s4.slots d1 _ hy3
      exact ⟨_, h3, trivial⟩
    · rename_i hh
      rw [lk_cons] at ht'
      split at ht'
      · rename_i hh2; subst hh2; cases ht'
        obtain ⟨u', h3, _⟩ := s4.slots d2 _ hx3
        exact ⟨_, h3, trivial⟩
      · rename_i hh2
        refine s4.slots t' e' ?_
        rw [lk_cons, if_neg hh, lk_cons, if_neg hh2, lk_cons, if_neg hh]; exact ht'
  refine s5.subG (fun r' x' h => ?_) (fun r1 r2 x1 x2 h1' h2' hne => ?_) (fun _ _ h => h)
  · obtain ⟨n, h, -⟩ := get r' x' h; exact ⟨n, h⟩
  · obtain ⟨n1, k1, q1⟩ := get r1 x1 h1'
    obtain ⟨n2, k2, q2⟩ := get r2 x2 h2'
    rcases q1 with ⟨a1, a2⟩ | ⟨a1, a2, a3⟩ | ⟨a1, a2⟩ <;> rcases q2 with ⟨b1, b2'⟩ | ⟨b1, b2', b3⟩ | ⟨b1, b2'⟩
    · exact absurd (a1.trans b1.symm) hne
    · exact ⟨n1, n2, by rw [a2]; exact fun e => (hb' n2 b3).2 e.symm, k1, k2⟩
    · exact ⟨n1, n2, by omega, k1, k2⟩
    · exact ⟨n1, n2, by rw [b2']; exact (hb' n1 a3).2, k1, k2⟩
    · obtain ⟨v1, c1⟩ := x1
      obtain ⟨v2, c2⟩ := x2
      obtain ⟨m1, m2, g1, g2, g3⟩ := hs.get2 a2 b2' hne
      have fix : ∀ n x, lr res n = some x → (∃ n', n' ∈ ns ∧ n = n') → lr ((r, some (v, Cont.list rawR T ((fvals vs ls).set je.toNat u))) :: (base + je.toNat, some (u, Cont.list R e z)) :: res) n = some x := fun n x hx ⟨n', h', e'⟩ => by
        subst e'
        rw [lr_cons, if_neg (fun e => (hb' n h').2 e.symm), lr_cons, if_neg (by have := (hb' n h').1; omega)]; exact hx
      obtain ⟨m1, m2, i1, i2, g1, g2, g3⟩ := hs.get3 a2 b2' hne
      exact ⟨m1, m2, g1, fix m1 _ g2 ⟨m1, i1, rfl⟩, fix m2 _ g3 ⟨m2, i2, rfl⟩⟩
    · exact ⟨n1, n2, by have := (hb' n1 a3).1; omega, k1, k2⟩
    · exact ⟨n1, n2, by omega, k1, k2⟩
    · exact ⟨n1, n2, by have := (hb' n2 b3).1; omega, k1, k2⟩
    · exact ⟨n1, n2, by omega, k1, k2⟩
theorem xFrzF {X : ρ → Act → World → Prop} {v : Value} (hf : HasFam res base R T vs ls) (r : Nat) (hr : lr res r = some (v, .list rawR T' (fvals vs ls))) (ns : List Nat) (hs : SubR res lits ns) (hn : (ns.all fun n => Nat.blt n base && !Nat.beq n r) = true) (hrb : Nat.blt r base = true) (k : GX X (Sta Γ l ((r, some (v, .list (sliceR R) T' ls)) :: lits)) m) : GX X (Sta Γ l res) m := fun a w ha => k a w (ha.frzFam hf r hr ns hs hn hrb)
theorem gFrzF {v : Value} (hf : HasFam res base R T vs ls) (r : Nat) (hr : lr res r = some (v, .list rawR T' (fvals vs ls))) (ns : List Nat) (hs : SubR res lits ns) (hn : (ns.all fun n => Nat.blt n base && !Nat.beq n r) = true) (hrb : Nat.blt r base = true) (k : G ro P (Sta Γ l ((r, some (v, .list (sliceR R) T' ls)) :: lits)) c Q m) : G ro P (Sta Γ l res) c Q m := xFrzF hf r hr ns hs hn hrb k
end
end
section
open Go Go.RowKit
section
variable {P : Program} {T I e ty : TypeId} {ti : TypeInfo} {z : Value} {w : World} {n' sLen sCap : Nat} {base : Option Addr} {olds : Array Value}
theorem run_apz_grow (hT : P.underlying T = some (.slice e)) (hI : P.underlying I = some (.int .i64)) (t1 : P.info? e = some ti) (t2 : ti.zero = some z) (hw : IntKind.i64.wrap (n' : Int) = (n' : Int)) (hbs : n' * ti.bytes ≤ 281474976710656) (hn : sCap < sLen + n') (h63 : sLen + n' ≤ 9223372036854775807) (hfit : Builtin.nextslicecap (sLen + n') sCap * ti.bytes ≤ 281474976710656) (hns : ¬ (n' * ti.size = 0))
  (ho : ∀ w', w' = w.drew → (Builtin.firstCells ti.size sLen (.slice base sLen sCap)).run P w' = .ok olds w') :
  (Builtin.append_ #[T, I] ty #[.slice base sLen sCap, .int .i64 (n' : Int)]).run P w = .ok (.slice (some ⟨w.heap.size, 0, none⟩) (sLen + n') (grownCap w (sLen + n') sCap e)) (w.drew.alloc (.cells (olds ++ Builtin.zeroCells z.cells n' ++ Builtin.zeroCells z.cells (grownCap w (sLen + n') sCap e - (sLen + n'))) e)) := by
  have hti : ∀ w', (typeInfo e).run P w' = .ok ti w' := fun w' => by simp [typeInfo, t1]
  have hzv : ∀ w', (zeroValue e).run P w' = .ok z w' := fun w' => by simp [zeroValue, typeInfo, t1, t2]
  have hsz : ∀ w', (sizeOf e).run P w' = .ok ti.size w' := fun w' => by simp [sizeOf, typeInfo, t1]
  have hai : ∀ w', (asInt (.int .i64 (n' : Int))).run P w' = .ok (n' : Int) w' := fun w' => rfl
  have hneg : ¬ ((n' : Int) < 0) := by omega
  have h1 : ¬ ((n' : Int) * (ti.bytes : Int) > 2 ^ 48) := by
    have : ((n' * ti.bytes : Nat) : Int) ≤ 281474976710656 := by have := Int.ofNat_le.2 hbs; omega
    rw [Int.natCast_mul] at this
    simp only [Int.not_lt, gt_iff_lt]; exact this
  have h2 : ¬ (sLen + n' ≤ sCap) := by omega
  have h3 : ¬ (((sLen + n' : Nat) : Int) > IntKind.i64.max ∧ (True ∨ ti.bytes = 0)) := by
    intro h; have := h.1; simp [IntKind.max, IntKind.bits, IntKind.signed] at this; omega
  have h4 : ¬ (Builtin.nextslicecap (sLen + n') sCap * ti.bytes > 2 ^ 48) := by
    simp only [gt_iff_lt, Nat.not_lt]; exact hfit
  simp only [Builtin.append_, List.getElem?_toArray, List.getElem?_cons_zero, List.getElem?_cons_succ, Sem.run_bind, run_underlying hT, run_underlying hI, Result.andThen, Sem.run_pure, hsz]
  simp only [if_true, Sem.run_bind, hai, Result.andThen, hw]
  rw [if_neg hneg]
  simp only [Sem.run_bind, hti, Result.andThen]
  rw [if_neg h1]
  simp only [Sem.run_bind, Sem.run_pure, Result.andThen, Int.toNat_natCast]
  rw [if_neg h2]
  simp only [Sem.run_bind, hti, Result.andThen]
  rw [if_neg h3]
  simp only [Sem.run_bind, hti, Result.andThen]
  rw [if_neg h4]
  have ho' := ho w.drew rfl
  simp [Question.forced, ho', hti, hns, hzv, newRow, grownCap, askRoom, Result.andThen]
theorem run_apz_room (hT : P.underlying T = some (.slice e)) (hI : P.underlying I = some (.int .i64)) (t1 : P.info? e = some ti) (t2 : ti.zero = some z) (hw : IntKind.i64.wrap (n' : Int) = (n' : Int)) (hbs : n' * ti.bytes ≤ 281474976710656) (hn : sLen + n' ≤ sCap) {w' : World} {a : Addr}
  (hst : (storeCells (a.add (sLen * ti.size)) (if n' * ti.size = 0 then [] else (Builtin.zeroCells z.cells n').toList)).run P w = .ok () w') :
  (Builtin.append_ #[T, I] ty #[.slice (some a) sLen sCap, .int .i64 (n' : Int)]).run P w = .ok (.slice (some a) (sLen + n') sCap) w' := by
  have hti : ∀ w', (typeInfo e).run P w' = .ok ti w' := fun w' => by simp [typeInfo, t1]
  have hzv : ∀ w', (zeroValue e).run P w' = .ok z w' := fun w' => by simp [zeroValue, typeInfo, t1, t2]
  have hsz : ∀ w', (sizeOf e).run P w' = .ok ti.size w' := fun w' => by simp [sizeOf, typeInfo, t1]
  have hai : ∀ w', (asInt (.int .i64 (n' : Int))).run P w' = .ok (n' : Int) w' := fun w' => rfl
  have hneg : ¬ ((n' : Int) < 0) := by omega
  have h1 : ¬ ((n' : Int) * (ti.bytes : Int) > 2 ^ 48) := by
    have : ((n' * ti.bytes : Nat) : Int) ≤ 281474976710656 := by have := Int.ofNat_le.2 hbs; omega
    rw [Int.natCast_mul] at this
    simp only [Int.not_lt, gt_iff_lt]; exact this
  simp only [Builtin.append_, List.getElem?_toArray, List.getElem?_cons_zero, List.getElem?_cons_succ, Sem.run_bind, run_underlying hT, run_underlying hI, Result.andThen, Sem.run_pure, hsz]
  simp only [if_true, Sem.run_bind, hai, Result.andThen, hw]
  rw [if_neg hneg]
  simp only [Sem.run_bind, hti, Result.andThen]
  rw [if_neg h1]
  simp only [Sem.run_bind, Sem.run_pure, Result.andThen, Int.toNat_natCast]
  rw [if_pos hn]
  by_cases hns : n' * ti.size = 0
  · rw [if_pos hns] at hst
    simp [hns, hst]
  · rw [if_neg hns] at hst
    simp [hns, hzv, hst]
end
section
variable {C : World → World → Prop} {ρ : Type} {P : Program} {Γ : Ctx} {l : Slots} {res : Res} {m : Option ρ} {os rest : List Oper} {N : ρ → Exit → Act → World → Prop} {ro : Option Nat} {Q : ρ → Exit → Act → World → Prop} {c : Code} {ex : Exit}
  {d : Tmp} {ty : TypeId} {pos : String} {after : Array Edge} {g : Option (Nat × Bool)} {α : Type}
theorem seg_of_list {R : Rep α} {T : TypeId} {b : List α} {S : Blk} {w : World} {v : Value} (h : (Cont.list R T b).holds S w v) : (Cont.seg R T b).holds S w v := by
  rcases h with h | ⟨k, o, h1, h2, b', cap, C, rfl, rfl, h3, h4, h5, h6⟩
  · exact .inl h
  · exact .inr ⟨k, _, h1, h2, b', 0, cap, C, rfl, rfl, h3, h4, .inr (by omega), by simpa using h6⟩
theorem xSeg {X : ρ → Act → World → Prop} {R : Rep α} {T : TypeId} {b : List α} {v : Value} (r : Nat) (hr : lr res r = some (v, .list R T b)) (k : GX X (Sta Γ l ((r, some (v, .seg R T b)) :: res)) m) : GX X (Sta Γ l res) m := fun a w ha => k a w (ha.recont r hr seg_of_list)
theorem gSeg {R : Rep α} {T : TypeId} {b : List α} {v : Value} (r : Nat) (hr : lr res r = some (v, .list R T b)) (k : G ro P (Sta Γ l ((r, some (v, .seg R T b)) :: res)) c Q m) : G ro P (Sta Γ l res) c Q m := xSeg r hr k
theorem cutS {R : Rep α} {b b' : List α} {x : Operand} {lo : Operand} {kk : IntKind} {γ : Type} {f : γ → Int} {jj : γ} {T e : TypeId} {z v : Value} {by_ : Nat} (r : Nat) (hx : opE l x = some (.val v)) (hr : lr res r = some (v, .seg R e b)) (hlo : opE l lo = some (.rd (numR kk f) jj)) (hb : cut b (f jj) (b.length : Int) = some b')
    (hT : P.underlying T = some (.slice e)) (hE : TI P e z R.sz by_) : Eff P Γ l res ⟨some d, .slice T x (some lo) none none, ty, pos, after, g⟩ r (fun u => (u, .seg R e b')) := fun a w ha => by
  obtain ⟨h1, h2, h3, rfl⟩ := cut_some hb
  have k5 := (ha.vl hx).1
  have hlen : ((b.drop (f jj).toNat).take ((b.length : Int).toNat - (f jj).toNat)) = b.drop (f jj).toNat := List.take_of_length_le (by simp)
  rw [hlen]
  have hl2 : (b.drop (f jj).toNat).length = b.length - (f jj).toNat := by simp
  rcases ha.conts r v _ hr with ⟨rfl, rfl⟩ | ⟨b', ob, g1, g2, bb, off, cap, C, rfl, rfl, g3, g4, g5, g6⟩
  · have hj : (f jj).toNat = 0 := by simp at h2; omega
    refine ⟨w, .slice none 0 0, ?_, ?_, rfl, none, Ext.rfl'.gb, by simp⟩
    · have hb := bounds_run (P := P) (isS := true) (n := 0) (cp := 0) (Bnd.to hlo) Bnd.no ha h1 (by simpa using h2) (by simp) (Nat.le_refl _) w
      simp only [hj] at hb
      simp only [execOp, Instr.sliceAt, k5, Sem.run_bind, run_underlying hT, Result.andThen, Instr.slice, Option.map_none] at hb ⊢
      simp only [hb, run_sizeOf hE, Sem.run_pure, Result.andThen]
      rfl
    · exact ha.upd r (v := .slice none 0 0) (wr := none) Ext.rfl'.gb (by simp) (by simp [rblk]) (fun S' k' => .inl ⟨rfl, by simp⟩)
  · simp only [rblk, Option.some.injEq] at g1
    subst g1
    have hi : (f jj).toNat ≤ b.length := by omega
    refine ⟨w, .slice (if cap = (f jj).toNat then some ⟨bb, off, none⟩ else (some (⟨bb, off, none⟩ : Addr)).map (·.add ((f jj).toNat * R.sz))) (b.length - (f jj).toNat) (cap - (f jj).toNat), ?_, ?_, rfl, none, Ext.rfl'.gb, by simp⟩
    · have hb := bounds_run (P := P) (isS := true) (n := b.length) (cp := cap) (Bnd.to hlo) Bnd.no ha h1 (by omega) (by omega) g3 w
      simp only [Option.map_none, Option.map_some] at hb
      simp only [execOp, Instr.sliceAt, k5, Sem.run_bind, run_underlying hT, Result.andThen, Instr.slice, hb, run_sizeOf hE, Sem.run_pure, Option.map_none, Option.map_some]
      simp only [Int.toNat_natCast]
    · have hrb : ∀ q, rblk (.slice (if cap = (f jj).toNat then some ⟨bb, off, none⟩ else (some (⟨bb, off, none⟩ : Addr)).map (·.add ((f jj).toNat * R.sz))) (b.length - (f jj).toNat) (cap - (f jj).toNat)) = some q → q = bb := fun q hq => by
        split at hq
        · simp only [rblk, Option.some.injEq] at hq; exact hq.symm
        · simp only [Option.map_some, add_none, rblk, Option.some.injEq] at hq; exact hq.symm
      refine ha.upd r (wr := none) Ext.rfl'.gb (by simp) (fun q hq => .inl ⟨_, _, hr, by rw [hrb q hq]; rfl⟩) (fun S' k' => ?_)
      have g7 := (g6.drop (f jj).toNat).mono k'
      by_cases hc : cap = (f jj).toNat
      · have h0 : b.length - (f jj).toNat = 0 := by omega
        rw [if_pos hc]
        refine .inr ⟨bb, _, rfl, g2, bb, off, cap - (f jj).toNat, C, by rw [hl2], rfl, by rw [hl2]; omega, by omega, .inl (by omega), ?_⟩
        rw [hl2, h0]
        have : b.drop (f jj).toNat = [] := List.drop_eq_nil_of_le (by omega)
        rw [this]; simp [relL]
      · rw [if_neg hc]
        simp only [Option.map_some, add_none]
        refine .inr ⟨bb, _, rfl, g2, bb, off + (f jj).toNat * R.sz, cap - (f jj).toNat, C, by rw [hl2], rfl, by rw [hl2]; omega, by omega, ?_, ?_⟩
        · rcases g5 with g5 | g5
          · exact .inl (by omega)
          · refine .inr ?_
            have : cap * R.sz = (f jj).toNat * R.sz + (cap - (f jj).toNat) * R.sz := by rw [← Nat.add_mul]; congr 1; omega
            omega
        · rw [hl2]
          have e1 : List.drop ((f jj).toNat * R.sz) ((C.toList.drop off).take (b.length * R.sz)) = ((C.toList.drop (off + (f jj).toNat * R.sz)).take ((b.length - (f jj).toNat) * R.sz)) := by
            rw [List.drop_take, List.drop_drop, Nat.sub_mul]
          rw [← e1]; exact g7
theorem new_holds {R : Rep α} {e : TypeId} {bl : List α} {S : Blk} {w : World} {C' : Array Value} {cp n : Nat} (hn : n = bl.length) (h1 : bl.length ≤ cp) (h2 : cp ≤ maxLen) (h3 : C'.size = cp * R.sz) (h4 : relL R S (w.drew.alloc (.cells C' e)) (C'.toList.take (bl.length * R.sz)) bl) : (Cont.list R e bl).holds S (w.drew.alloc (.cells C' e)) (.slice (some ⟨w.heap.size, 0, none⟩) n cp) := by
  subst hn
  exact .inr ⟨w.heap.size, _, rfl, heap_alloc_new w.drew _, w.heap.size, cp, C', rfl, rfl, h1, h2, h3, h4⟩
theorem new_gb (w : World) (o : Obj) : w.grownBy (w.drew.alloc o) none := ((Ext.rfl' (w := w)).dr.tr (Ext.al _ _)).gb
theorem apS {R : Rep α} {b b2 b3 : List α} {x y : Operand} {v z : Value} {E : Ent} {T e : TypeId} {by_ : Nat} (r : Nat) (hx : opE l x = some (.val v)) (hr : lr res r = some (v, .seg R e b)) (hy : opE l y = some E) (hv : Vw R res E b2) (hb : app by_ b b2 = some b3)
    (hT : P.underlying T = some (.slice e)) (hE : TI P e z R.sz by_) (hz : z.cells.size = R.sz) (h0 : Nat.blt 0 R.sz = true) (h1 : Nat.blt 0 by_ = true) :
    Eff P Γ l res ⟨some d, .call ⟨.builtin .append, #[x, y], #[T, T]⟩, ty, pos, after, g⟩ r (fun u => (u, .seg R e b3)) := fun a w ha => by
  have h0 : 0 < R.sz := Eq.mp Nat.blt_eq h0
  have h1 : 0 < by_ := Eq.mp Nat.blt_eq h1
  obtain ⟨hby, rfl⟩ := app_some hb
  have e1 := (ha.vl hx).1
  obtain ⟨q, c2, news, e2, k1, k2⟩ := hv.get ha (ha.vl hy)
  have hlen : b.length + b2.length ≤ 140737488355328 := Nat.le_trans (Nat.le_mul_of_pos_right _ h1) hby
  have hml : maxLen = 9223372036854775807 := rfl
  rcases ha.conts r v _ hr with ⟨rfl, rfl⟩ | ⟨b', ob, g1, g2, bb, off, cap, C, rfl, rfl, g3, g4, g5, g6⟩
  ·
    have ho : w.ownsRow 0 e R.sz (.slice none 0 0) 0 [] := ⟨by simp, .inl ⟨rfl, rfl⟩⟩
    obtain ⟨p', c', w', q1, q2, q3, q4⟩ := run_append_rd (rt := ty) hT hE hz h0 ho k1 k2.one (by simp at hlen; omega) (by simpa using hby) (Nat.zero_le _)
    simp only [Nat.zero_add, List.nil_append] at q1 q2 q4
    refine ⟨w', .slice p' b2.length c', ?_, ?_, rfl, _, q3, by simp [Value.ownBlock]⟩
    · simp [execOp, resolve, invoke, builtin, e1, e2, q1]
    · refine ha.upd r q3 (by simp [Value.ownBlock]) (fun bb hbb => ?_) (fun S' k' => seg_of_list (owns_list (B := 0) (xs := news) (by simpa using q2) (by simpa using k2.mono k')))
      rw [rblk_own] at hbb
      rcases q4 bb hbb with h | h
      · simp [Value.ownBlock] at h
      · exact .inr h
  · simp only [rblk, Option.some.injEq] at g1
    subst g1
    obtain ⟨ti, t1, t2, t3, t4⟩ := hE
    have hnl := k1.1
    have hsl : (Value.slice (some ⟨bb, off, none⟩) b.length cap).ownBlock = some bb := rfl
    have hol := g6.len
    have hread : ∀ j u, ((C.toList.drop off).take (b.length * R.sz))[j]? = some u → w.cell? ((⟨bb, off, none⟩ : Addr).add j) = some u := fun j u hu => by
      rw [add_none]
      rw [List.getElem?_take] at hu
      split at hu
      · unfold World.cell?
        rw [g2]
        rw [List.getElem?_drop] at hu
        simpa using hu
      · cases hu
    rcases k1.2 with ⟨hq, hb0⟩ | ⟨qb, qo, qs, qc, hq, q1, q2, q3, q4⟩
    ·
      have hn0 : b2 = [] := List.eq_nil_of_length_eq_zero hb0
      subst hn0
      simp only [Value.slice.injEq] at hq
      obtain ⟨rfl, -, rfl⟩ := hq
      have hrun : (Builtin.append_ #[T, T] ty #[.slice (some ⟨bb, off, none⟩) b.length cap, .slice none 0 0]).run P w = .ok (.slice (some ⟨bb, off, none⟩) b.length cap) w := by
        simp [Builtin.append_, run_underlying hT, sizeOf, typeInfo, t1, Builtin.lenOf, Builtin.firstCells, g3, storeCells]
      refine ⟨w, .slice (some ⟨bb, off, none⟩) b.length cap, ?_, ?_, rfl, none, Ext.rfl'.gb, by simp⟩
      · have e2' : a.eval y = .slice none 0 0 := e2
        simp [execOp, resolve, invoke, builtin, e1, e2', hrun]
      · rw [List.append_nil]
        exact ha.upd r (wr := none) Ext.rfl'.gb (by simp) (fun q hq => .inl ⟨_, _, hr, hq⟩) (fun S' k' => .inr ⟨bb, _, rfl, g2, bb, off, cap, C, rfl, rfl, g3, g4, g5, g6.mono k'⟩)
    · simp only [Value.slice.injEq, true_and] at hq
      obtain ⟨rfl, rfl⟩ := hq
      have hn : ∀ j u, news[j]? = some u → w.cell? ((⟨qb, qo, qs⟩ : Addr).add j) = some u := fun j u hu => by
        rcases q3 with h | rfl
        · rw [h] at hu; simp at hu
        · rw [add_none]; exact q4 j u hu
      by_cases hroom : b.length + b2.length ≤ cap
      · by_cases hc0 : cap = 0
        ·
          have hb2 : b2.length = 0 := by omega
          have hn0 : b2 = [] := List.eq_nil_of_length_eq_zero hb2
          subst hn0
          have hnn : news = [] := List.eq_nil_of_length_eq_zero (by rw [hnl]; simp)
          subst hnn
          have hf := run_firstCells_some (P := P) w ti.size 0 ⟨qb, qo, qs⟩ 0 c2 [] (by simp) (by simp)
          have hrun : (Builtin.append_ #[T, T] ty #[.slice (some ⟨bb, off, none⟩) b.length cap, .slice (some ⟨qb, qo, qs⟩) 0 c2]).run P w = .ok (.slice (some ⟨bb, off, none⟩) b.length cap) w := by
            simp [Builtin.append_, run_underlying hT, sizeOf, typeInfo, t1, Builtin.lenOf, hf, g3, storeCells]
          refine ⟨w, .slice (some ⟨bb, off, none⟩) b.length cap, ?_, ?_, rfl, none, Ext.rfl'.gb, by simp⟩
          · have e2' : a.eval y = .slice (some ⟨qb, qo, qs⟩) 0 c2 := e2
            simp [execOp, resolve, invoke, builtin, e1, e2', hrun]
          · rw [List.append_nil]
            exact ha.upd r (wr := none) Ext.rfl'.gb (by simp) (fun q hq => .inl ⟨_, _, hr, hq⟩) (fun S' k' => .inr ⟨bb, _, rfl, g2, bb, off, cap, C, rfl, rfl, g3, g4, g5, g6.mono k'⟩)
        · have hC : off + cap * R.sz = C.size := by rcases g5 with h | h; exact absurd h hc0; exact h
          have hfit : off + b.length * R.sz + news.length ≤ C.size := by
            rw [hnl, ← hC]
            have : (b.length + b2.length) * R.sz ≤ cap * R.sz := Nat.mul_le_mul_right _ hroom
            rw [Nat.add_mul] at this; omega
          have hf := run_firstCells_some (P := P) w ti.size b2.length ⟨qb, qo, qs⟩ b2.length c2 news (by rw [t3]; exact hnl) hn
          have hst := run_storeCells_at P bb (off + b.length * R.sz) e news 0 C w g2 (by simpa using hfit) k2.one
          simp only [Nat.add_zero] at hst
          obtain ⟨C', hC', hrun⟩ : ∃ C' : Array Value, C'.toList = C.toList.take (off + b.length * R.sz) ++ news ++ C.toList.drop (off + b.length * R.sz + news.length) ∧ (Builtin.append_ #[T, T] ty #[.slice (some ⟨bb, off, none⟩) b.length cap, .slice (some ⟨qb, qo, qs⟩) b2.length c2]).run P w = .ok (.slice (some ⟨bb, off, none⟩) (b.length + b2.length) cap) (w.setRow bb C') := by
            refine ⟨(C.toList.take (off + b.length * R.sz) ++ news ++ C.toList.drop (off + b.length * R.sz + news.length)).toArray, rfl, ?_⟩
            rw [t3] at hf
            simp [Builtin.append_, run_underlying hT, sizeOf, typeInfo, t1, t3, Builtin.lenOf, hroom, hf, add_none, hst]
          refine ⟨w.setRow bb C', .slice (some ⟨bb, off, none⟩) (b.length + b2.length) cap, ?_, ?_, rfl, some bb, setRow_gr bb C', fun q hq => ⟨_, _, hr, by cases hq; rfl⟩⟩
          · simp only [execOp, resolve, invoke, builtin, Sem.run_bind]
            simp [e1, e2, hrun]
          · have hCl : C.toList.length = C.size := by simp
            refine ha.upd r (setRow_gr bb C') (fun q hq => ⟨_, _, hr, by cases hq; rfl⟩) (fun q hq => .inl ⟨_, _, hr, hq⟩) (fun S' k' => .inr ⟨bb, _, rfl, setRow_heap w bb C C' e _ g2, bb, off, cap, C', by rw [List.length_append], rfl, by rw [List.length_append]; exact hroom, g4, .inr ?_, ?_⟩)
            · rw [hC, ← Array.length_toList (xs := C'), hC']
              simp only [List.length_append, List.length_take, List.length_drop, hCl]
              omega
            · rw [List.length_append, hC']
              have e3 : ((C.toList.take (off + b.length * R.sz) ++ news ++ C.toList.drop (off + b.length * R.sz + news.length)).drop off).take ((b.length + b2.length) * R.sz) = (C.toList.drop off).take (b.length * R.sz) ++ news := by
                have : C.toList.take (off + b.length * R.sz) = C.toList.take off ++ (C.toList.drop off).take (b.length * R.sz) := by rw [List.take_add]
                rw [this, List.append_assoc, List.append_assoc, List.drop_left' (by simp; omega), Nat.add_mul, ← hnl]
                rw [← List.append_assoc]
                rw [List.take_left']
                simp only [List.length_append, List.length_take, List.length_drop, hCl]
                omega
              rw [e3]
              exact (g6.mono k').append (k2.mono k')
      · have hfit2 : Builtin.nextslicecap (b.length + b2.length) cap * ti.bytes ≤ 281474976710656 := by
          rw [t4]; exact growslice_fits (by omega) (by omega)
        have hge := grownCap_ge w (b.length + b2.length) cap e
        have hle := grownCap_le_maxLen w (b.length + b2.length) cap e (by omega)
        obtain ⟨C', hC', hrun⟩ : ∃ C' : Array Value, C'.toList = ((C.toList.drop off).take (b.length * R.sz) ++ news) ++ (Builtin.zeroCells z.cells (grownCap w (b.length + b2.length) cap e - (b.length + b2.length))).toList ∧ (Builtin.append_ #[T, T] ty #[.slice (some ⟨bb, off, none⟩) b.length cap, .slice (some ⟨qb, qo, qs⟩) b2.length c2]).run P w = .ok (.slice (some ⟨w.heap.size, 0, none⟩) (b.length + b2.length) (grownCap w (b.length + b2.length) cap e)) (w.drew.alloc (.cells C' e)) :=
          ⟨_, by simp, run_append_grow (P := P) w T ty e ti z hT t1 t2 ⟨bb, off, none⟩ b.length cap _ (by rw [t3]; exact hol) hread ⟨qb, qo, qs⟩ b2.length c2 news (by rw [t3]; exact hnl) hn (by omega) (by omega) hfit2⟩
        refine ⟨w.drew.alloc (.cells C' e), .slice (some ⟨w.heap.size, 0, none⟩) (b.length + b2.length) (grownCap w (b.length + b2.length) cap e), ?_, ?_, rfl, none, new_gb w _, by simp⟩
        · simp only [execOp, resolve, invoke, builtin, Sem.run_bind]
          simp [e1, e2, hrun]
        · refine ha.upd r (wr := none) (new_gb w _) (by simp) (fun q hq => .inr (by simp [rblk] at hq; omega)) (fun S' k' => seg_of_list (new_holds (by simp) (by rw [List.length_append]; exact hge) hle ?_ ?_))
          · rw [← Array.length_toList, hC']
            simp only [List.length_append, Array.length_toList, size_zeroCells, hol, hnl, hz]
            have : grownCap w (b.length + b2.length) cap e * R.sz = (b.length + b2.length) * R.sz + (grownCap w (b.length + b2.length) cap e - (b.length + b2.length)) * R.sz := by rw [← Nat.add_mul]; congr 1; omega
            rw [Nat.add_mul] at this
            omega
          · rw [List.length_append, hC', List.take_left' (by simp only [List.length_append, hol, hnl, Nat.add_mul])]
            exact (g6.mono k').append (k2.mono k')
def Ent.sp {α : Type} (R : Rep α) (v : Value) (b : List α) (y : α) : Ent := ⟨fun _ _ u => ∃ k off n cap i, v = .slice (some ⟨k, off, none⟩) n cap ∧ u = .pointer (some ⟨k, off + i * R.sz, none⟩) ∧ b[i]? = some y, fun _ h => h⟩
theorem ixSg {β : Type} {R : Rep α} {b : List α} {y : α} {k : IntKind} {f : β → Int} {j : β} {x z' : Operand} {T e E : TypeId} {z v : Value} {by_ : Nat} (r : Nat) (hx : opE l x = some (.val v)) (hr : lr res r = some (v, .seg R E b)) (hj : opE l z' = some (.rd (numR k f) j)) (hy : idx b (f j) = some y) (hT : P.underlying T = some (.slice e)) (hE : TI P e z R.sz by_) :
    Run C P Γ l res ⟨some d, .indexAddr T x z', ty, pos, after, g⟩ (.sp R v b y) := fun a w ha => by
  have h1 := (ha.vl hx).1
  obtain ⟨k1, k2, k3⟩ := idx_some hy
  have hj' : a.eval z' = .int k ((f j).toNat : Int) := by rw [rd_num (ha.vl hj)]; congr 1; omega
  rcases ha.conts r v _ hr with ⟨_, h2⟩ | ⟨b', o, h2, h3, bb, off, cap, C', rfl, rfl, _⟩
  · rw [h2] at k3; simp at k3
  · refine ⟨.pointer (some ⟨bb, off + (f j).toNat * R.sz, none⟩), fun w' _ => ?_, bb, off, b.length, cap, (f j).toNat, rfl, rfl, k2⟩
    generalize (f j).toNat = jn at *
    simp [execOp, h1, hj', Instr.indexAt, asIntOf, run_underlying hT, k3, run_sizeOf hE, add_none]
theorem ldSg {ws : List Nat} [LC C res ws] {R : Rep α} {b : List α} {y : α} {t T : TypeId} {x : Operand} {v : Value} (r : Nat) (hx : opE l x = some (.sp R v b y)) (hr : lr res r = some (v, .seg R T b)) (hT : TyIs P t R.agg R.sz) (hw : ws.contains r = false) :
    Run C P Γ l res ⟨some d, .load t x, ty, pos, after, g⟩ (.rd R y) := fun a w ha => by
  obtain ⟨k, off, n, cap, i, hv, hu, hi⟩ := ha.vl hx
  rcases ha.conts r v _ hr with ⟨rfl, rfl⟩ | ⟨b', o, h2, h3, bb, off', cap', Cc, rfl, rfl, g3, g4, g5, g6⟩
  · simp at hi
  · simp only [Value.slice.injEq, Option.some.injEq, Addr.mk.injEq] at hv
    obtain ⟨⟨rfl, rfl, -⟩, rfl, rfl⟩ := hv
    obtain ⟨aa, cs, dd, e1, e2, e3, -⟩ := g6.split hi
    have hsplit : Cc.toList = (Cc.toList.take off' ++ aa) ++ cs ++ (dd ++ (Cc.toList.drop off').drop (b.length * R.sz)) := by
      have h1 : Cc.toList = Cc.toList.take off' ++ ((Cc.toList.drop off').take (b.length * R.sz) ++ (Cc.toList.drop off').drop (b.length * R.sz)) := by rw [List.take_append_drop, List.take_append_drop]
      rw [e1] at h1
      simpa using h1
    have hoff : (Cc.toList.take off' ++ aa).length = off' + i * R.sz := by
      have hb0 : i < b.length := (List.getElem?_eq_some_iff.1 hi).1
      have : off' ≤ Cc.toList.length := by
        rcases g5 with h | h
        · omega
        · rw [Array.length_toList]; omega
      simp [e2]; omega
    simp only [rblk, Option.some.injEq] at h2
    subst h2
    refine ⟨R.val cs, fun w' hw' => ?_, cs, e3, rfl⟩
    have hb' : w'.heap[bb]? = some (.cells Cc T (0, 0)) := (CW.at hw' ha hr rfl hw).trans h3
    have := Bx.load (P := P) hb' hsplit (R.mono (CW.stay hw') e3) hT
    rw [hoff] at this
    simp [execOp, hu, Instr.loadAt, Instr.sureAddr, this]
def Ent.sub (sz : Nat) (v : Value) (k n : Nat) : Ent := ⟨fun _ _ u => ∃ p cap, u = .slice p n cap ∧ n ≤ cap ∧ (n ≠ 0 → ∃ b, p = some ⟨b, k * sz, none⟩ ∧ rblk v = some b), fun _ h => h⟩
theorem cutSu {R : Rep α} {b : List α} {x : Operand} {lo hi : Option Operand} {i j : Int} {T e : TypeId} {z v : Value} {by_ : Nat} (r : Nat) (hx : opE l x = some (.val v)) (hr : lr res r = some (v, .list R e b)) (hlo : Bnd l 0 lo i) (hhi : Bnd l (b.length : Int) hi j) (hb : 0 ≤ i ∧ i ≤ j ∧ j ≤ (b.length : Int))
    (hT : P.underlying T = some (.slice e)) (hE : TI P e z R.sz by_) : Run C P Γ l res ⟨some d, .slice T x lo hi none, ty, pos, after, g⟩ (.sub R.sz v i.toNat (j.toNat - i.toNat)) := fun a w ha => by
  obtain ⟨h1, h2, h3⟩ := hb
  have k5 := (ha.vl hx).1
  obtain ⟨xs, o1, o2⟩ := list_owns (ha.conts r v _ hr)
  obtain ⟨p, c, rfl⟩ := slice_form o1
  have hcap : b.length ≤ c := by
    rcases o1.2 with ⟨hv, h0⟩ | ⟨g', cap', cur, hv, hbg, hg', hnc, hcm, hcs, htake⟩
    · omega
    · simp only [Value.slice.injEq, true_and] at hv; omega
  refine ⟨.slice (if c = i.toNat then p else p.map (·.add (i.toNat * R.sz))) (j.toNat - i.toNat) (c - i.toNat), fun w' _ => ?_, _, _, rfl, by omega, fun hn => ?_⟩
  · have hb := bounds_run (P := P) (isS := true) hlo hhi ha h1 h2 h3 hcap w'
    simp only [execOp, Instr.sliceAt, k5, Sem.run_bind, run_underlying hT, Result.andThen, Instr.slice, hb, run_sizeOf hE, Sem.run_pure, Option.map_none]
  · rw [if_neg (by omega)]
    rcases o1.2 with ⟨hv, h0⟩ | ⟨g', cap', cur, hv, hbg, hg', hnc, hcm, hcs, htake⟩
    · omega
    · simp only [Value.slice.injEq, true_and] at hv
      rw [hv.1]
      exact ⟨g', by simp [add_none], rfl⟩
theorem lenSu {x : Operand} {T e : TypeId} {at_ : Array TypeId} {sz : Nat} {v : Value} {k n : Nat} (hx : opE l x = some (.sub sz v k n)) (hat : at_[0]? = some T) (hT : P.underlying T = some (.slice e)) :
    Run C P Γ l res ⟨some d, .call ⟨.builtin .len, #[x], at_⟩, ty, pos, after, g⟩ (.rd i64R (n : Int)) := fun a w ha => by
  obtain ⟨p, cap, h1, h2, h3⟩ := ha.vl hx
  exact ⟨_, fun w' _ => q0_lenS hat hT h1, rd_num'⟩
def subi (k n : Nat) (j : Int) : Option Nat := if 0 ≤ j ∧ j < (n : Int) then some (k + j.toNat) else none
theorem ixSu {β : Type} {R : Rep α} {b : List α} {k : IntKind} {f : β → Int} {j : β} {x z' : Operand} {T e E : TypeId} {z v : Value} {by_ kk n q : Nat} (r : Nat) (hx : opE l x = some (.sub R.sz v kk n)) (hr : lr res r = some (v, .list R E b)) (hj : opE l z' = some (.rd (numR k f) j)) (hq : subi kk n (f j) = some q) (hT : P.underlying T = some (.slice e)) (hE : TI P e z R.sz by_) :
    Run C P Γ l res ⟨some d, .indexAddr T x z', ty, pos, after, g⟩ (.val (ptrTo v ((q : Int).toNat * R.sz))) := fun a w ha => by
  unfold subi at hq
  split at hq
  · rename_i hh
    cases hq
    obtain ⟨p, cap, h1, h2, h3⟩ := ha.vl hx
    obtain ⟨bb, rfl, hb⟩ := h3 (by omega)
    have hj' : a.eval z' = .int k ((f j).toNat : Int) := by rw [rd_num (ha.vl hj)]; congr 1; omega
    have hpt : ptrTo v (((kk + (f j).toNat : Nat) : Int).toNat * R.sz) = .pointer (some ⟨bb, (kk + (f j).toNat) * R.sz, none⟩) := by unfold ptrTo; rw [hb, Int.toNat_natCast]
    refine ⟨.pointer (some ⟨bb, (kk + (f j).toNat) * R.sz, none⟩), fun w' _ => ?_, hpt.symm, by rw [hpt]; rfl⟩
    have hlt : (f j).toNat < n := by omega
    rw [Nat.add_mul]
    generalize (f j).toNat = jn at *
    simp [execOp, h1, hj', Instr.indexAt, asIntOf, run_underlying hT, hlt, run_sizeOf hE, add_none]
  · cases hq
def clr {α : Type} (b : List α) (k n : Nat) (x0 : α) : List α := b.take k ++ (List.replicate n x0 ++ b.drop (k + n))
theorem zero_flat {z : Array Value} {n : Nat} (h0 : 0 < z.size) : (Builtin.zeroCells z n).toList = (List.replicate n z.toList).flatten := by
  rw [← made_flat rfl h0]; rfl
theorem clrS {R : Rep α} {b : List α} {x0 : α} {x : Operand} {T e : TypeId} {at_ : Array TypeId} {z v : Value} {by_ k n : Nat} (r : Nat) (hx : opE l x = some (.sub R.sz v k n)) (hr : lr res r = some (v, .list R e b)) (hc : k + n ≤ b.length) (hat : at_[0]? = some T) (hT : P.underlying T = some (.slice e)) (hE : TI P e z R.sz by_) (hz : Zr R z.cells.toList x0) (h0 : Nat.blt 0 R.sz = true) :
    ∀ a w, Sta Γ l res a w → ∃ w' u, (execOp a.eval ⟨none, .call ⟨.builtin .clear, #[x], at_⟩, ty, pos, after, none⟩).run P w = .ok (.value u) w' ∧ Sta Γ l ((r, some (v, .list R e (clr b k n x0))) :: res) a w' := fun a w ha => by
  have h0 : 0 < R.sz := Eq.mp Nat.blt_eq h0
  obtain ⟨p, cap, h1, h2, h3⟩ := ha.vl hx
  have hzl : z.cells.size = R.sz := by rw [← Array.length_toList]; exact R.len (hz (fun _ => True) w)
  by_cases hn : n = 0
  · subst hn
    have hrun : (Builtin.clear_ at_ ty #[.slice p 0 cap]).run P w = .ok (.tuple #[]) w := by
      cases p <;> simp [Builtin.clear_, hat, run_underlying hT]
    refine ⟨w, .tuple #[], by simp [execOp, resolve, invoke, builtin, h1, hrun], ?_⟩
    have e : clr b k 0 x0 = b := by simp [clr]
    rw [e]
    exact ha.recont r hr id
  · obtain ⟨bb, rfl, hb⟩ := h3 hn
    rcases ha.conts r v _ hr with ⟨rfl, _⟩ | ⟨b', o, g1, g2, b2, cp, C, rfl, rfl, g3, g4, g5, g6⟩
    · cases hb
    · simp only [rblk, Option.some.injEq] at g1 hb
      subst g1; subst hb
      have hfl := zero_flat (n := n) (z := z.cells) (by omega)
      have hll : ((List.replicate n z.cells.toList).flatten).length = n * R.sz := by simp [hzl]
      have hfit : k * R.sz + (Builtin.zeroCells z.cells n).toList.length ≤ C.size := by
        rw [hfl, hll, g5, ← Nat.add_mul]
        exact Nat.mul_le_mul_right _ (by omega)
      have hone : ∀ u ∈ (Builtin.zeroCells z.cells n).toList, u.oneCell' = true := fun u hu => by
        rw [hfl] at hu
        simp only [List.mem_flatten, List.mem_replicate] at hu
        obtain ⟨q, ⟨-, rfl⟩, hu⟩ := hu
        exact R.one (hz (fun _ => True) w) u hu
      have hst := run_storeCells_at P b2 (k * R.sz) e (Builtin.zeroCells z.cells n).toList 0 C w g2 (by simpa using hfit) hone
      simp only [Nat.add_zero] at hst
      obtain ⟨C', hC', hrun⟩ : ∃ C' : Array Value, C'.toList = C.toList.take (k * R.sz) ++ (List.replicate n z.cells.toList).flatten ++ C.toList.drop (k * R.sz + n * R.sz) ∧ (Builtin.clear_ at_ ty #[.slice (some ⟨b2, k * R.sz, none⟩) n cap]).run P w = .ok (.tuple #[]) (w.setRow b2 C') := by
        refine ⟨(C.toList.take (k * R.sz) ++ (Builtin.zeroCells z.cells n).toList ++ C.toList.drop (k * R.sz + (Builtin.zeroCells z.cells n).toList.length)).toArray, ?_, ?_⟩
        rotate_left
        · obtain ⟨n', rfl⟩ : ∃ n', n = n' + 1 := ⟨n - 1, by omega⟩
          simp only [Builtin.clear_, hat, Sem.run_bind, run_underlying hT, Result.andThen, run_zero hE, hst, Sem.run_pure, List.getElem?_toArray, List.getElem?_cons_zero]
        · simp only [hfl, hll]
      refine ⟨w.setRow b2 C', .tuple #[], by simp [execOp, resolve, invoke, builtin, h1, hrun], ?_⟩
      refine (ha.upd r (setRow_gr b2 C') (fun q hq => ⟨_, _, hr, by cases hq; rfl⟩) (fun q hq => .inl ⟨_, _, hr, hq⟩) (fun S' k' => ?_)).1
      have hrel := (g6.mono k')
      have hcl : (clr b k n x0).length = b.length := by simp [clr]; omega
      have hbl : (k + n) * R.sz ≤ b.length * R.sz := Nat.mul_le_mul_right _ hc
      have hCl : C.toList.length = cp * R.sz := by simpa using g5
      have hcp : b.length * R.sz ≤ cp * R.sz := Nat.mul_le_mul_right _ g3
      rw [Nat.add_mul] at hbl
      refine .inr ⟨b2, _, rfl, setRow_heap w b2 C C' e _ g2, b2, cp, C', by rw [hcl], rfl, by rw [hcl]; exact g3, g4, ?_, ?_⟩
      · rw [← Array.length_toList, hC']
        simp only [List.length_append, List.length_take, List.length_drop, hCl, hll]
        omega
      · rw [hcl, hC']
        have e1 : (C.toList.take (k * R.sz) ++ (List.replicate n z.cells.toList).flatten ++ C.toList.drop (k * R.sz + n * R.sz)).take (b.length * R.sz)
            = (C.toList.take (b.length * R.sz)).take (k * R.sz) ++ ((List.replicate n z.cells.toList).flatten ++ (C.toList.take (b.length * R.sz)).drop ((k + n) * R.sz)) := by
          have l1 : (C.toList.take (k * R.sz)).length = k * R.sz := by rw [List.length_take]; omega
          rw [List.take_take, Nat.min_eq_left (by omega), List.append_assoc, List.take_append, List.take_append, List.take_take, hll, l1]
          rw [Nat.min_eq_right (by omega), List.take_of_length_le (l := (List.replicate n z.cells.toList).flatten) (by rw [hll]; omega), List.drop_take, Nat.add_mul]
          congr 3
          omega
        rw [e1]
        refine (hrel.take k).append ((hz.rep S' _ n).append ?_)
        exact hrel.drop (k + n)
theorem cutO {R : Rep α} {b b' : List α} {x : Operand} {hi : Operand} {kk : IntKind} {γ : Type} {f : γ → Int} {jj : γ} {T e : TypeId} {z v : Value} {by_ : Nat} (r : Nat) (hx : opE l x = some (.val v)) (hr : lr res r = some (v, .list R e b)) (hhi : opE l hi = some (.rd (numR kk f) jj)) (hb : cut b 0 (f jj) = some b')
    (hT : P.underlying T = some (.slice e)) (hE : TI P e z R.sz by_) : Eff P Γ l res ⟨some d, .slice T x none (some hi) none, ty, pos, after, g⟩ r (fun u => (u, .list R e b')) := fun a w ha => by
  obtain ⟨h1, h2, h3, rfl⟩ := cut_some hb
  have k5 := (ha.vl hx).1
  have e0 : ((b.drop (0 : Int).toNat).take ((f jj).toNat - (0 : Int).toNat)) = b.take (f jj).toNat := by simp
  rw [e0]
  have hl2 : (b.take (f jj).toNat).length = (f jj).toNat := by simp; omega
  rcases ha.conts r v _ hr with ⟨rfl, rfl⟩ | ⟨b', ob, g1, g2, bb, cap, C, rfl, rfl, g3, g4, g5, g6⟩
  · have hj : (f jj).toNat = 0 := by simp at h3; omega
    refine ⟨w, .slice none 0 0, ?_, ?_, rfl, none, Ext.rfl'.gb, by simp⟩
    · have hb := bounds_run (P := P) (isS := true) (n := 0) (cp := 0) Bnd.no (Bnd.to hhi) ha (Int.le_refl _) h2 (by simpa using h3) (Nat.le_refl _) w
      simp only [hj] at hb
      simp only [execOp, Instr.sliceAt, k5, Sem.run_bind, run_underlying hT, Result.andThen, Instr.slice, Option.map_none] at hb ⊢
      simp only [hb, run_sizeOf hE, Sem.run_pure, Result.andThen]
      rfl
    · exact ha.upd r (v := .slice none 0 0) (wr := none) Ext.rfl'.gb (by simp) (by simp [rblk]) (fun S' k' => .inl ⟨rfl, by simp⟩)
  · simp only [rblk, Option.some.injEq] at g1
    subst g1
    refine ⟨w, .slice (some ⟨bb, 0, none⟩) (f jj).toNat cap, ?_, ?_, rfl, none, Ext.rfl'.gb, by simp⟩
    · have hb := bounds_run (P := P) (isS := true) (n := b.length) (cp := cap) Bnd.no (Bnd.to hhi) ha (Int.le_refl _) h2 h3 g3 w
      simp only [Option.map_none, Option.map_some] at hb
      simp only [execOp, Instr.sliceAt, k5, Sem.run_bind, run_underlying hT, Result.andThen, Instr.slice, hb, run_sizeOf hE, Sem.run_pure, Option.map_none, Option.map_some]
      simp [add_none]
    · refine ha.upd r (wr := none) Ext.rfl'.gb (by simp) (fun q hq => .inl ⟨_, _, hr, hq⟩) (fun S' k' => ?_)
      refine .inr ⟨bb, _, rfl, g2, bb, cap, C, by rw [hl2], rfl, by rw [hl2]; omega, g4, g5, ?_⟩
      have g7 := (g6.mono k').take (f jj).toNat
      rw [List.take_take, Nat.min_eq_left (Nat.mul_le_mul_right _ (by omega))] at g7
      rw [hl2]; exact g7
theorem capN {x : Operand} {T e : TypeId} {at_ : Array TypeId} (hx : opE l x = some (.val (.slice none 0 0))) (hat : at_[0]? = some T) (hT : P.underlying T = some (.slice e)) :
    Run C P Γ l res ⟨some d, .call ⟨.builtin .cap, #[x], at_⟩, ty, pos, after, g⟩ (.rd i64R 0) := fun a w ha => by
  have h1 := (ha.vl hx).1
  refine ⟨.int .i64 0, fun w' _ => ?_, rd_num'⟩
  simp [execOp, resolve, invoke, builtin, Builtin.cap_, h1, hat, run_underlying hT, goInt]
theorem cutN {x hi : Operand} {T e : TypeId} {z : Value} {sz by_ : Nat} (hx : opE l x = some (.val (.slice none 0 0))) (hhi : opE l hi = some (.rd i64R 0)) (hT : P.underlying T = some (.slice e)) (hE : TI P e z sz by_) :
    Run C P Γ l res ⟨some d, .slice T x none (some hi) none, ty, pos, after, g⟩ (.val (.slice none 0 0)) := fun a w ha => by
  have h1 := (ha.vl hx).1
  refine ⟨.slice none 0 0, fun w' _ => ?_, rfl, rfl⟩
  have hb := bounds_run (P := P) (isS := true) (n := 0) (cp := 0) Bnd.no (Bnd.to (k := .i64) (f := id) hhi) ha (Int.le_refl _) (Int.le_refl _) (Int.le_refl _) (Nat.le_refl _) w'
  simp only [execOp, Instr.sliceAt, h1, Sem.run_bind, run_underlying hT, Result.andThen, Instr.slice, Option.map_none] at hb ⊢
  simp only [hb, run_sizeOf hE, Sem.run_pure, Result.andThen]
  rfl
theorem apZ {R : Rep α} {x0 : α} {b : List α} {x y : Operand} {z : Value} {T I e : TypeId} {by_ : Nat} {n : Int} (r : Nat) (hx : opE l x = some (.val (.slice none 0 0))) (hy : opE l y = some (.rd i64R n)) (hb : mkn (2 * by_) x0 n = some b)
    (hT : P.underlying T = some (.slice e)) (hI : P.underlying I = some (.int .i64)) (hE : TI P e z R.sz by_) (hz : Zr R z.cells.toList x0) (h0 : Nat.blt 0 R.sz = true) :
    Eff P Γ l res ⟨some d, .call ⟨.builtin .append, #[x, y], #[T, I]⟩, ty, pos, after, g⟩ r (fun u => (u, .list R e b)) := fun a w ha => by
  have h0 : 0 < R.sz := Eq.mp Nat.blt_eq h0
  obtain ⟨h1, h2, h3, rfl⟩ := mkn_some hb
  obtain ⟨n', rfl⟩ : ∃ n' : Nat, n = (n' : Int) := ⟨n.toNat, by omega⟩
  simp only [Int.toNat_natCast] at h2 h3 ⊢
  have e1 := (ha.vl hx).1
  have e2 := rd_num (ha.vl hy)
  simp only [id] at e2
  obtain ⟨ti, g1, g2, g3, g4⟩ := hE
  have hzs : z.cells.size = R.sz := by rw [← Array.length_toList]; exact R.len (hz (fun _ => True) w)
  have hw : IntKind.i64.wrap (n' : Int) = (n' : Int) := wrap_i64' (by omega) (by omega)
  by_cases hn : n' = 0
  · subst hn
    have hrun : (Builtin.append_ #[T, I] ty #[.slice none 0 0, .int .i64 0]).run P w = .ok (.slice none 0 0) w := by
      have hw0 : IntKind.i64.wrap 0 = 0 := by decide
      simp [Builtin.append_, run_underlying hT, run_underlying hI, sizeOf, typeInfo, g1, asInt, asIntOf, hw0, storeCells]
    refine ⟨w, .slice none 0 0, ?_, ?_, rfl, none, Ext.rfl'.gb, by simp⟩
    · simp [execOp, resolve, invoke, builtin, e1, e2, hrun]
    · exact ha.upd r (v := .slice none 0 0) (wr := none) Ext.rfl'.gb (by simp) (by simp [rblk]) (fun S' k' => .inl ⟨rfl, rfl⟩)
  · have hbs : n' * ti.bytes ≤ 281474976710656 := by
      rw [g4, Nat.mul_comm]; rw [Nat.mul_assoc] at h2; omega
    have hfit : Builtin.nextslicecap n' 0 * ti.bytes ≤ 281474976710656 := by
      rw [nextslicecap_zero (by omega), g4]
      rw [Nat.mul_assoc, Nat.mul_comm by_] at h2; omega
    have hge := grownCap_ge w n' 0 e
    have hle := grownCap_le_maxLen w n' 0 e (by unfold maxLen; omega)
    have hfit' : ¬ (281474976710656 < Builtin.nextslicecap n' 0 * ti.bytes) := by omega
    have hns : ¬ (n' * ti.size = 0) := by
      rw [g3]; intro hh; rcases Nat.mul_eq_zero.1 hh with h | h <;> omega
    obtain ⟨C', hC', hrun⟩ : ∃ C' : Array Value, C'.toList = (Builtin.zeroCells z.cells n').toList ++ (Builtin.zeroCells z.cells (grownCap w n' 0 e - n')).toList ∧ (Builtin.append_ #[T, I] ty #[.slice none 0 0, .int .i64 (n' : Int)]).run P w = .ok (.slice (some ⟨w.heap.size, 0, none⟩) n' (grownCap w n' 0 e)) (w.drew.alloc (.cells C' e)) := by
      refine ⟨Builtin.zeroCells z.cells n' ++ Builtin.zeroCells z.cells (grownCap w n' 0 e - n'), by simp, ?_⟩
      have := run_apz_grow (w := w) (ty := ty) (sLen := 0) (sCap := 0) (base := none) (olds := #[]) hT hI g1 g2 hw (by have := hbs; omega) (by omega) (by omega) (by rw [Nat.zero_add]; omega) hns (fun w' _ => run_firstCells_none w' _ 0 0 0)
      simpa using this
    refine ⟨w.drew.alloc (.cells C' e), .slice (some ⟨w.heap.size, 0, none⟩) n' (grownCap w n' 0 e), ?_, ?_, rfl, none, new_gb w _, by simp⟩
    · simp only [execOp, resolve, invoke, builtin, Sem.run_bind]
      simp [e1, e2, hrun]
    · refine ha.upd r (wr := none) (new_gb w _) (by simp) (fun q hq => .inr (by simp [rblk] at hq; omega)) (fun S' k' => new_holds (by simp) (by simp; exact hge) hle ?_ ?_)
      · rw [← Array.length_toList, hC']
        simp only [List.length_append, Array.length_toList, size_zeroCells, hzs]
        rw [← Nat.add_mul]; congr 1; omega
      · simp only [List.nil_append, List.length_replicate]
        rw [hC', zero_flat (by omega), List.take_left' (by simp [hzs])]
        exact hz.rep _ _ _
theorem idxV {β : Type} {n : Nat} {R : Rep α} {b : Vector α n} {y : α} {k : IntKind} {f : β → Int} {j : β} {x z' : Operand} {T e : TypeId} {z : Value} {by_ : Nat} (hx : opE l x = some (.rd (arrR n R) b)) (hj : opE l z' = some (.rd (numR k f) j)) (hy : vidx b (f j) = some y) (hT : P.underlying T = some (.array n e)) (hE : TI P e z R.sz by_) (hTy : TyIs P e R.agg R.sz) :
    Run C P Γ l res ⟨some d, .index T x z', ty, pos, after, g⟩ (.rd R y) := fun a w ha => by
  obtain ⟨cs, h1, h2⟩ := ha.vl hx
  obtain ⟨k1, k3⟩ := vidx_lt hy
  have hj' : a.eval z' = .int k ((f j).toNat : Int) := by rw [rd_num (ha.vl hj)]; congr 1; omega
  have hy' : b.toList[(f j).toNat]? = some y := by
    have := hy
    unfold vidx idx at this
    rw [if_pos k1] at this
    simpa using this
  obtain ⟨aa, c, dd, e1, e2, e3, -⟩ := relL.split h1 hy'
  refine ⟨R.val c, fun w' _ => ?_, c, e3, rfl⟩
  have p1 := run_part (P := P) (xs := cs.toArray) (by simpa using e1) e3 hTy w'
  rw [e2] at p1
  have h2' : a.eval x = .agg cs.toArray := h2
  generalize (f j).toNat = jn at *
  simp [execOp, Instr.index, h2', hj', asIntOf, run_underlying hT, k3, run_sizeOf hE, p1]
theorem ixH {β : Type} {n : Nat} {R : Rep α} {b : Vector α n} {y : α} {k : IntKind} {f : β → Int} {j : β} {x z' : Operand} {T e : TypeId} {z v : Value} {by_ q : Nat} {c : Cont} {upd : Vector α n → Cont} (r : Nat) (hx : opE l x = some (.val (ptrTo v q))) (hr : lr res r = some (v, c)) (hf : Foc c q (arrR n R) b upd) (hj : opE l z' = some (.rd (numR k f) j)) (hy : vidx b (f j) = some y) (hT : P.underlying T = some (.array n e)) (hE : TI P e z R.sz by_) :
    Run C P Γ l res ⟨some d, .indexAddr T x z', ty, pos, after, g⟩ (.val (ptrTo v (q + (f j).toNat * R.sz))) := fun a w ha => by
  have h1 := (ha.vl hx).1
  obtain ⟨k1, k3⟩ := vidx_lt hy
  have hj' : a.eval z' = .int k ((f j).toNat : Int) := by rw [rd_num (ha.vl hj)]; congr 1; omega
  rcases ha.conts r v c hr with h2 | ⟨b', o, h2, h3, h4⟩
  · exact (hf.1 _ _ v h2).elim
  · obtain ⟨bb, C', T', a', cs, dd, q1, -⟩ := hf.2 _ w v o h4
    rw [ptrTo_base q1] at h1 ⊢
    exact ⟨_, fun w' _ => q0_indexAddrA hT hE h1 hj' rfl k3 rfl, rfl, rfl⟩
theorem cutVp {R : Rep α} {n i j : Nat} {v : Vector α n} {x : Operand} {lo hi : Option Operand} {T e : TypeId} {z : Value} {by_ : Nat} (hx : opE l x = some (.rp (arrR n R) v)) (hlo : Bnd l 0 lo (i : Int)) (hhi : Bnd l (n : Int) hi (j : Int)) (hT : P.underlying T = some (.array n e)) (hE : TI P e z R.sz by_) (hij : i ≤ j ∧ j ≤ n) (hn : Nat.blt i n = true) (hm : Nat.ble n 281474976710656 = true) (h0 : Nat.blt 0 R.sz = true) :
    Run C P Γ l res ⟨some d, .slice T x lo hi none, ty, pos, after, g⟩ (.rd (sliceR R) ((v.toList.drop i).take (j - i))) := fun a w ha => by
  have hn : i < n := Eq.mp Nat.blt_eq hn
  have hm : n ≤ 281474976710656 := Nat.le_of_ble_eq_true hm
  obtain ⟨b, o, cs, h1, h2, h3, h4⟩ := ha.vl hx
  have hlen : ((v.toList.drop i).take (j - i)).length = j - i := by simp; omega
  have hrel : relL R (Shr Γ.H res w) w ((cs.drop (i * R.sz)).take ((j - i) * R.sz)) ((v.toList.drop i).take (j - i)) := (relL.drop i (show relL R _ w cs v.toList from h3)).take (j - i)
  refine ⟨.slice (some ⟨b, o + i * R.sz, none⟩) ((v.toList.drop i).take (j - i)).length (n - i), fun w' _ => ?_, _, ⟨some ⟨b, o + i * R.sz, none⟩, n - i, _, rfl, ⟨hrel.len, .inr ⟨b, o + i * R.sz, none, n - i, rfl, by omega, by unfold maxLen; omega, .inr rfl, fun q u hu => ?_⟩⟩, hrel, fun _ bb hbb => by cases hbb; exact h2⟩, rfl⟩
  · rw [hlen]
    have hb := bounds_run (P := P) (isS := false) (n := n) (cp := n) hlo hhi ha (by omega) (by omega) (by omega) (Nat.le_refl _) w'
    simp only [Int.toNat_natCast] at hb
    have hne : ¬ n = i := by omega
    simp [execOp, h1, Instr.sliceAt, run_underlying hT, hb, Instr.sureAddr, run_sizeOf hE, Sem.run_pure, add_none, hne]
  · rw [List.getElem?_take] at hu
    split at hu
    · rw [List.getElem?_drop] at hu
      have := h4 _ u hu
      rw [show o + i * R.sz + q = o + (i * R.sz + q) by omega]; exact this
    · cases hu
theorem fldV {β : Type} {R : Rep α} {R2 : Rep β} {b : α} {y : β} {off i : Nat} {set : β → α} {x : Operand} {T ft : TypeId} {fs : Array Field} (hx : opE l x = some (.rd R b)) (hp : Part R b off R2 y set) (hag : R.agg = true) (hT : P.underlying T = some (.struct fs)) (hf : (fs[i]?).map (fun f => (f.type, f.offset)) = some (ft, off)) (hTy : TyIs P ft R2.agg R2.sz) :
    Run C P Γ l res ⟨some d, .field T x i, ty, pos, after, g⟩ (.rd R2 y) := fun a w ha => by
  obtain ⟨cs, h1, h2⟩ := ha.vl hx
  obtain ⟨aa, c, dd, e1, e2, e3, -⟩ := hp _ _ _ h1
  have h2' : a.eval x = .agg cs.toArray := by rw [h2]; simp [Rep.val, hag]
  obtain ⟨f, hf1, hf2⟩ := Option.map_eq_some_iff.1 hf
  simp only [Prod.mk.injEq] at hf2
  obtain ⟨rfl, rfl⟩ := hf2
  refine ⟨R2.val c, fun w' _ => ?_, c, e3, rfl⟩
  have p1 := run_part (P := P) (xs := cs.toArray) (by simpa using e1) e3 hTy w'
  rw [e2] at p1
  simp [execOp, Instr.field, h2', run_underlying hT, hf1, asAgg, p1]
theorem nckP {β : Type} {R : Rep β} {y : β} {upd : β → Cont} {x : Operand} {v : Value} {k : Nat} {c : Cont} (r : Nat) (hx : opE l x = some (.val (ptrTo v k))) (hr : lr res r = some (v, c)) (hf : Foc c k R y upd) : Run C P Γ l res ⟨some d, .nilCheck x, ty, pos, after, g⟩ (.val (ptrTo v k)) := fun a w ha => by
  have h1 := (ha.vl hx).1
  rcases ha.conts r v c hr with h2 | ⟨b, o, h2, h3, h4⟩
  · exact (hf.1 _ _ v h2).elim
  · obtain ⟨b', C', T, a', cs, dd, k1, -⟩ := hf.2 _ w v o h4
    rw [ptrTo_base k1] at h1 ⊢
    exact ⟨_, fun w' _ => by simp [execOp, h1], rfl, rfl⟩
def appz {α : Type} (by_ : Nat) (b : List α) (x : α) (n : Int) : Option (List α) := if 0 ≤ n ∧ (b.length + n.toNat) * by_ ≤ 140737488355328 then some (b ++ List.replicate n.toNat x) else none
theorem appz_some {by_ : Nat} {b d : List α} {x : α} {n : Int} (h : appz by_ b x n = some d) : 0 ≤ n ∧ (b.length + n.toNat) * by_ ≤ 140737488355328 ∧ b ++ List.replicate n.toNat x = d := by
  unfold appz at h; split at h
  · rename_i hh; cases h; exact ⟨hh.1, hh.2, rfl⟩
  · cases h
theorem apZO {R : Rep α} {x0 : α} {b b3 : List α} {x y : Operand} {v z : Value} {T I e : TypeId} {by_ : Nat} {n : Int} (r : Nat) (hx : opE l x = some (.val v)) (hr : lr res r = some (v, .list R e b)) (hy : opE l y = some (.rd i64R n)) (hb : appz by_ b x0 n = some b3)
    (hT : P.underlying T = some (.slice e)) (hI : P.underlying I = some (.int .i64)) (hE : TI P e z R.sz by_) (hz : Zr R z.cells.toList x0) (h0 : Nat.blt 0 R.sz = true) (h1 : Nat.blt 0 by_ = true := by rfl) :
    Eff P Γ l res ⟨some d, .call ⟨.builtin .append, #[x, y], #[T, I]⟩, ty, pos, after, g⟩ r (fun u => (u, .list R e b3)) := fun a w ha => by
  have h0 : 0 < R.sz := Eq.mp Nat.blt_eq h0
  have h1 : 0 < by_ := Eq.mp Nat.blt_eq h1
  obtain ⟨hn0, hby, rfl⟩ := appz_some hb
  obtain ⟨n', rfl⟩ : ∃ n' : Nat, n = (n' : Int) := ⟨n.toNat, by omega⟩
  simp only [Int.toNat_natCast] at hby ⊢
  have e1 := (ha.vl hx).1
  have e2 := rd_num (ha.vl hy)
  simp only [id] at e2
  obtain ⟨ti, t1, t2, t3, t4⟩ := hE
  have hzs : z.cells.size = R.sz := by rw [← Array.length_toList]; exact R.len (hz (fun _ => True) w)
  have hlen : b.length + n' ≤ 140737488355328 := Nat.le_trans (Nat.le_mul_of_pos_right _ h1) hby
  have hml : maxLen = 9223372036854775807 := rfl
  have hw : IntKind.i64.wrap (n' : Int) = (n' : Int) := wrap_i64' (by omega) (by omega)
  have hbn' : n' * ti.bytes ≤ 281474976710656 := by
    rw [t4]
    have : n' * by_ ≤ 140737488355328 := Nat.le_trans (Nat.mul_le_mul_right _ (by omega)) hby
    omega
  have hfl := zero_flat (n := n') (z := z.cells) (by omega)
  have hll : ((List.replicate n' z.cells.toList).flatten).length = n' * R.sz := by simp [hzs]
  have hone : ∀ u ∈ (Builtin.zeroCells z.cells n').toList, u.oneCell' = true := fun u hu => by
    rw [hfl] at hu
    simp only [List.mem_flatten, List.mem_replicate] at hu
    obtain ⟨q, ⟨-, rfl⟩, hu⟩ := hu
    exact R.one (hz (fun _ => True) w) u hu
  obtain ⟨xs, o1, o2⟩ := list_owns (ha.conts r v _ hr)
  rcases o1.2 with ⟨rfl, hb0⟩ | ⟨g', cap, cur, rfl, hbg, hg', hnc, hcm, hcs, htake⟩
  · have hbn : b = [] := List.eq_nil_of_length_eq_zero hb0
    subst hbn
    by_cases hn : n' = 0
    · subst hn
      have hrun : (Builtin.append_ #[T, I] ty #[.slice none 0 0, .int .i64 0]).run P w = .ok (.slice none 0 0) w := by
        have hw0 : IntKind.i64.wrap 0 = 0 := by decide
        simp [Builtin.append_, run_underlying hT, run_underlying hI, sizeOf, typeInfo, t1, asInt, asIntOf, hw0, storeCells]
      refine ⟨w, .slice none 0 0, ?_, ?_, rfl, none, Ext.rfl'.gb, by simp⟩
      · simp [execOp, resolve, invoke, builtin, e1, e2, hrun]
      · exact ha.upd r (v := .slice none 0 0) (wr := none) Ext.rfl'.gb (by simp) (by simp [rblk]) (fun S' k' => .inl ⟨rfl, rfl⟩)
    · have hge := grownCap_ge w n' 0 e
      have hle := grownCap_le_maxLen w n' 0 e (by omega)
      have hfit' : ¬ (281474976710656 < Builtin.nextslicecap n' 0 * ti.bytes) := by
        rw [nextslicecap_zero (by omega), t4]
        simp only [List.length_nil, Nat.zero_add] at hby; omega
      have h63 : ¬ ((9223372036854775807 : Int) < (n' : Int)) := by omega
      have hns : ¬ (n' * ti.size = 0) := by
        rw [t3]; intro hh; rcases Nat.mul_eq_zero.1 hh with h | h <;> omega
      obtain ⟨C', hC', hrun⟩ : ∃ C' : Array Value, C'.toList = (Builtin.zeroCells z.cells n').toList ++ (Builtin.zeroCells z.cells (grownCap w n' 0 e - n')).toList ∧ (Builtin.append_ #[T, I] ty #[.slice none 0 0, .int .i64 (n' : Int)]).run P w = .ok (.slice (some ⟨w.heap.size, 0, none⟩) n' (grownCap w n' 0 e)) (w.drew.alloc (.cells C' e)) := by
        refine ⟨Builtin.zeroCells z.cells n' ++ Builtin.zeroCells z.cells (grownCap w n' 0 e - n'), by simp, ?_⟩
        have := run_apz_grow (w := w) (ty := ty) (sLen := 0) (sCap := 0) (base := none) (olds := #[]) hT hI t1 t2 hw hbn' (by omega) (by omega) (by rw [Nat.zero_add]; omega) hns (fun w' _ => run_firstCells_none w' _ 0 0 0)
        simpa using this
      refine ⟨w.drew.alloc (.cells C' e), .slice (some ⟨w.heap.size, 0, none⟩) n' (grownCap w n' 0 e), ?_, ?_, rfl, none, new_gb w _, by simp⟩
      · simp only [execOp, resolve, invoke, builtin, Sem.run_bind]
        simp [e1, e2, hrun]
      · refine ha.upd r (wr := none) (new_gb w _) (by simp) (fun q hq => .inr (by simp [rblk] at hq; omega)) (fun S' k' => new_holds (by simp) (by simp; exact hge) hle ?_ ?_)
        · rw [← Array.length_toList, hC']
          simp only [List.length_append, Array.length_toList, size_zeroCells, hzs]
          rw [← Nat.add_mul]; congr 1; omega
        · simp only [List.nil_append, List.length_replicate]
          rw [hC', zero_flat (by omega), List.take_left' (by simp [hzs])]
          exact hz.rep _ _ _
  · have hrow : Bx w g' cur e := hg'
    have hxl := o1.1
    have hread : ∀ j u, xs[j]? = some u → w.cell? ((⟨g', 0, none⟩ : Addr).add j) = some u := fun j u hu => o1.cells (g := g') rfl j u hu
    by_cases hroom : b.length + n' ≤ cap
    · have hfit : b.length * R.sz + (Builtin.zeroCells z.cells n').toList.length ≤ cur.size := by
        rw [hfl, hll, hcs, ← Nat.add_mul]; exact Nat.mul_le_mul_right _ hroom
      have hst := run_storeCells_at P g' (b.length * R.sz) e (Builtin.zeroCells z.cells n').toList 0 cur w hg' (by simpa using hfit) hone
      simp only [Nat.add_zero] at hst
      obtain ⟨C', hC', hrun⟩ : ∃ C' : Array Value, C'.toList = cur.toList.take (b.length * R.sz) ++ (Builtin.zeroCells z.cells n').toList ++ cur.toList.drop (b.length * R.sz + (Builtin.zeroCells z.cells n').toList.length) ∧ (Builtin.append_ #[T, I] ty #[.slice (some ⟨g', 0, none⟩) b.length cap, .int .i64 (n' : Int)]).run P w = .ok (.slice (some ⟨g', 0, none⟩) (b.length + n') cap) (w.setRow g' C') := by
        refine ⟨(cur.toList.take (b.length * R.sz) ++ (Builtin.zeroCells z.cells n').toList ++ cur.toList.drop (b.length * R.sz + (Builtin.zeroCells z.cells n').toList.length)).toArray, rfl, ?_⟩
        have hst' : (storeCells ((⟨g', 0, none⟩ : Addr).add (b.length * ti.size)) (if n' * ti.size = 0 then [] else (Builtin.zeroCells z.cells n').toList)).run P w = .ok () (w.setRow g' (cur.toList.take (b.length * R.sz) ++ (Builtin.zeroCells z.cells n').toList ++ cur.toList.drop (b.length * R.sz + (Builtin.zeroCells z.cells n').toList.length)).toArray) := by
          have e9 : (if n' * ti.size = 0 then [] else (Builtin.zeroCells z.cells n').toList) = (Builtin.zeroCells z.cells n').toList := by
            split
            · rename_i h
              rw [hfl]
              rw [t3] at h
              rcases Nat.mul_eq_zero.1 h with h | h
              · rw [h]; rfl
              · omega
            · rfl
          rw [e9, t3, add_none, Nat.zero_add]
          exact hst
        exact run_apz_room hT hI t1 t2 hw hbn' hroom hst'
      have hCl : cur.toList.length = cur.size := by simp
      refine ⟨w.setRow g' C', .slice (some ⟨g', 0, none⟩) (b.length + n') cap, ?_, ?_, rfl, some g', setRow_gr g' C', fun q hq => ⟨_, _, hr, by cases hq; rfl⟩⟩
      · simp only [execOp, resolve, invoke, builtin, Sem.run_bind]
        simp [e1, e2, hrun]
      · refine ha.upd r (setRow_gr g' C') (fun q hq => ⟨_, _, hr, by cases hq; rfl⟩) (fun q hq => .inl ⟨_, _, hr, hq⟩) (fun S' k' => .inr ⟨g', _, rfl, setRow_heap w g' cur C' e _ hg', g', cap, C', by rw [List.length_append, List.length_replicate], rfl, by rw [List.length_append, List.length_replicate]; exact hroom, hcm, ?_, ?_⟩)
        · rw [← hcs, ← Array.length_toList (xs := C'), hC']
          simp only [List.length_append, List.length_take, List.length_drop, hCl]
          omega
        · rw [List.length_append, List.length_replicate, hC', htake, hfl, List.take_left' (by rw [List.length_append, hxl, hll, Nat.add_mul])]
          exact (o2.mono k').append (hz.rep _ _ _)
    · have hfit2 : ¬ (281474976710656 < Builtin.nextslicecap (b.length + n') cap * ti.bytes) := by
        rw [t4]; have := growslice_fits (old := cap) (need := b.length + n') (bytes := by_) (by omega) (by omega); omega
      have h63 : ¬ ((9223372036854775807 : Int) < ((b.length + n' : Nat) : Int)) := by omega
      have hge := grownCap_ge w (b.length + n') cap e
      have hle := grownCap_le_maxLen w (b.length + n') cap e (by omega)
      have hfo := run_firstCells_some (P := P) w.drew ti.size b.length ⟨g', 0, none⟩ b.length cap xs (by rw [t3]; exact hxl) (by simpa using hread)
      obtain ⟨C', hC', hrun⟩ : ∃ C' : Array Value, C'.toList = (xs ++ (Builtin.zeroCells z.cells n').toList) ++ (Builtin.zeroCells z.cells (grownCap w (b.length + n') cap e - (b.length + n'))).toList ∧ (Builtin.append_ #[T, I] ty #[.slice (some ⟨g', 0, none⟩) b.length cap, .int .i64 (n' : Int)]).run P w = .ok (.slice (some ⟨w.heap.size, 0, none⟩) (b.length + n') (grownCap w (b.length + n') cap e)) (w.drew.alloc (.cells C' e)) := by
        refine ⟨xs.toArray ++ Builtin.zeroCells z.cells n' ++ Builtin.zeroCells z.cells (grownCap w (b.length + n') cap e - (b.length + n')), by simp, ?_⟩
        have hns : ¬ (n' * ti.size = 0) := by
          rw [t3]; intro hh; rcases Nat.mul_eq_zero.1 hh with h | h <;> omega
        exact run_apz_grow hT hI t1 t2 hw hbn' (by omega) (by omega) (by omega) hns (fun w' hw' => by subst hw'; exact hfo)
      refine ⟨w.drew.alloc (.cells C' e), .slice (some ⟨w.heap.size, 0, none⟩) (b.length + n') (grownCap w (b.length + n') cap e), ?_, ?_, rfl, none, new_gb w _, by simp⟩
      · simp only [execOp, resolve, invoke, builtin, Sem.run_bind]
        simp [e1, e2, hrun]
      · refine ha.upd r (wr := none) (new_gb w _) (by simp) (fun q hq => .inr (by simp [rblk] at hq; omega)) (fun S' k' => new_holds (by simp) (by simp; exact hge) hle ?_ ?_)
        · rw [← Array.length_toList, hC']
          simp only [List.length_append, Array.length_toList, size_zeroCells, hxl, hzs]
          have : grownCap w (b.length + n') cap e * R.sz = (b.length + n') * R.sz + (grownCap w (b.length + n') cap e - (b.length + n')) * R.sz := by rw [← Nat.add_mul]; congr 1; omega
          rw [Nat.add_mul] at this; omega
        · rw [List.length_append, List.length_replicate, hC', hfl, List.take_left' (by rw [List.length_append, hll, hxl, Nat.add_mul])]
          exact (o2.mono k').append (hz.rep _ _ _)
end
end
end Go.Proofs.YtjnheeekdadcpaaGreatDoor
