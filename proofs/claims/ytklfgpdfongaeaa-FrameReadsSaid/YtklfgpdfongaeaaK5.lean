/- Memory, written: stores, slices that are made, appended to and cut, structs that are built. Over any program. -/
import Derived.Test.YtklfgpdfongaeaaK4
namespace Go.Proofs.Ytklfgpdfongaeaa
open Go Go.RowKit
set_option linter.unusedSimpArgs false
set_option linter.unusedVariables false

section
variable {C : World → World → Prop} {ρ : Type} {P : Program} {Γ : Ctx} {l : Slots} {res : Res} {m : Option ρ} {os rest : List Oper} {N : ρ → Exit → Act → World → Prop}
  {d : Tmp} {ty : TypeId} {pos : String} {after : Array Edge} {g : Option (Nat × Bool)}

/-! ### stores -/
theorem rblk_base {v : Value} {b b' : Nat} (h : rblk v = some b) (k : base v = some b') : b' = b := by
  have := base_rblk k; rw [h] at this; cases this; rfl
/-- A datum is stored in what the call owns. -/
theorem sto' {α : Type} {R : Rep α} {x' y' : α} {upd : α → Cont} {t : TypeId} {x y : Operand} {v z : Value} {by_ k : Nat} {c : Cont} {a : Act} {w : World} (ha : Sta Γ l res a w) (r : Nat) (hx : opE l x = some (.val (ptrTo v k))) (hr : lr res r = some (v, c)) (hf : Foc c k R x' upd)
    (hy : opE l y = some (.rd R y')) (hS : TI P t z R.sz by_) : ∃ w', (execOp a.eval ⟨none, .store t x y, ty, pos, after, g⟩).run P w = .ok .skip w' ∧ (Sta Γ l ((r, some (v, upd y')) :: res) a w' ∧ Stay (Shr Γ.H res w) (Shr Γ.H ((r, some (v, upd y')) :: res) w') w w') ∧ Grew res r w w' := by
  have h1 := (ha.vl hx).1
  obtain ⟨cs', hy1, hy2⟩ := ha.vl hy
  rcases ha.conts r v c hr with h2 | ⟨b, o, h2, h3, h4⟩
  · exact (hf.1 _ _ v h2).elim
  · obtain ⟨b', C, T, a', cs, dd, k1, rfl, k3, rfl, k5, k6⟩ := hf.2 _ w v o h4
    rw [ptrTo_base k1] at h1
    obtain rfl := rblk_base h2 k1
    have hB : Bx w b' C T := h3
    have hlen : cs'.length = cs.length := by rw [R.len hy1, R.len k5]
    have hcl : (R.val cs').cells.toList = cs' := Rep.val_cells hy1
    have hsp : spl C a'.length (R.val cs').cells.toList = (a' ++ cs' ++ dd).toArray := by
      rw [hcl]; unfold spl; rw [k3]; congr 1
      simp [hlen]
    have hrun := run_storeB (P := P) (w := w) (b := b') (o := a'.length) (v := R.val cs') hS (by rw [← Array.length_toList, hcl, R.len hy1]) (by rw [hcl]; exact R.one hy1) hB (by
      have : C.toList.length = C.size := by simp
      rw [k3] at this; simp [R.len k5] at this; omega)
    refine ⟨w.setRow b' (a' ++ cs' ++ dd).toArray, ?_, ?_, some b', setRow_gr b' _, fun b hb => ⟨v, c, hr, by cases hb; exact h2⟩⟩
    · rw [← hsp]
      simp [execOp, h1, hy2, Instr.storeAt, Instr.sureAddr, hrun]
    · refine ha.upd r (setRow_gr b' _) (fun b hb => ⟨v, c, hr, by cases hb; exact h2⟩) (fun b hb => .inl ⟨v, c, hr, hb⟩) (fun S' k' => .inr ⟨b', _, h2, setRow_heap w b' C _ T _ hB, ?_⟩)
      exact k6 S' _ cs' y' k' (R.mono k' hy1)
theorem sto {α : Type} {R : Rep α} {x' y' : α} {upd : α → Cont} {t : TypeId} {x y : Operand} {v z : Value} {by_ k : Nat} {c : Cont} (r : Nat) (hx : opE l x = some (.val (ptrTo v k))) (hr : lr res r = some (v, c)) (hf : Foc c k R x' upd)
    (hy : opE l y = some (.rd R y')) (hS : TI P t z R.sz by_) : EffS P Γ l res ⟨none, .store t x y, ty, pos, after, g⟩ r (v, upd y') := fun a w ha => sto' ha r hx hr hf hy hS
/-- what an entry's cells are -/
def Ent.ones (e : Ent) : Prop := ∀ S w v, e.holds S w v → ∀ u ∈ v.cells.toList, u.oneCell' = true
theorem ones_rd {α : Type} {R : Rep α} {x : α} : (Ent.rd R x).ones := fun S w v h => by
  obtain ⟨cs, h1, rfl⟩ := h
  rw [Rep.val_cells h1]; exact R.one h1
theorem ones_val {u : Value} : (Ent.val u).ones := fun S w v h => by
  obtain ⟨rfl, h⟩ := h
  rw [oneCell_cells h]; simpa using h
/-- whatever stands k cells in is replaced by another entry -/
def Swap (es : List Ent) (k n : Nat) (e : Ent) (es' : List Ent) : Prop := ∃ pre post e0, es = pre ++ e0 :: post ∧ es' = pre ++ e :: post ∧ e0.fills n ∧ ∀ S w vs, holdsL S w pre vs → (catC vs).length = k
theorem Swap.here {e e0 : Ent} {es : List Ent} {n : Nat} (h : e0.fills n) : Swap (e0 :: es) 0 n e (e :: es) := ⟨[], es, e0, rfl, rfl, h, fun S w vs h => by match vs, h with | [], _ => rfl⟩
theorem Swap.next {e e' : Ent} {es es' : List Ent} {n k k' : Nat} (h : e'.fills k') (p : Swap es k n e es') : Swap (e' :: es) (k' + k) n e (e' :: es') := by
  obtain ⟨pre, post, e0, rfl, rfl, h1, hk⟩ := p
  refine ⟨e' :: pre, post, e0, rfl, rfl, h1, fun S w vs hh => ?_⟩
  match vs, hh with
  | u :: vs, ⟨h1, h2⟩ =>
    have h3 := h S w u h1
    rw [catC_cons, List.length_append, hk S w vs h2]
    simp [h3]
theorem catC_app (us ts : List Value) : catC (us ++ ts) = catC us ++ catC ts := by simp [catC]
theorem stoE' {t T : TypeId} {x y : Operand} {v z : Value} {by_ k n : Nat} {es es' : List Ent} {e : Ent} {a : Act} {w : World} (ha : Sta Γ l res a w) (r : Nat) (hx : opE l x = some (.val (ptrTo v k))) (hr : lr res r = some (v, .box T es)) (hf : Swap es k n e es')
    (hy : opE l y = some e) (h1e : e.ones) (hn : e.fills n) (hS : TI P t z n by_) : ∃ w', (execOp a.eval ⟨none, .store t x y, ty, pos, after, g⟩).run P w = .ok .skip w' ∧ (Sta Γ l ((r, some (v, .box T es')) :: res) a w' ∧ Stay (Shr Γ.H res w) (Shr Γ.H ((r, some (v, .box T es')) :: res) w') w w') ∧ Grew res r w w' := by
  have h1 := (ha.vl hx).1
  have hy1 := ha.vl hy
  rcases ha.conts r v _ hr with h2 | ⟨b, o, h2, h3, b', vs, rfl, rfl, h4⟩
  · exact h2.elim
  · simp only [rblk, Option.some.injEq] at h2
    subst h2
    obtain ⟨pre, post, e0, rfl, rfl, hn0, hk⟩ := hf
    obtain ⟨us, ts, rfl, h5, h6⟩ := h4.app
    match ts, h6 with
    | y0 :: ts, ⟨h7, h8⟩ =>
      have hl := hk _ _ _ h5
      rw [ptrTo_ptr] at h1
      have hB : Bx w b' (catC (us ++ y0 :: ts)).toArray T := h3
      have hy0 : y0.cells.toList.length = n := by have := hn0 _ _ _ h7; simpa using this
      have hyn : (a.eval y).cells.size = n := hn _ _ _ hy1
      have hrun := run_storeB (P := P) (w := w) (b := b') (o := k) (v := a.eval y) hS hyn (h1e _ _ _ hy1) hB (by
        subst hl
        simp only [List.size_toArray, catC_app, catC_cons, List.length_append]; omega)
      have hsp : spl (catC (us ++ y0 :: ts)).toArray k (a.eval y).cells.toList = (catC (us ++ a.eval y :: ts)).toArray := by
        subst hl
        unfold spl; congr 1
        have : (a.eval y).cells.toList.length = n := by simpa using hyn
        simp only [catC_app, catC_cons, this]
        rw [show ∀ A B Cc : List Value, A.length + n = (A ++ B).length → List.drop (A.length + n) (A ++ (B ++ Cc)) = Cc by
          intro A B Cc h; rw [h, ← List.append_assoc, List.drop_left']; rfl]
        · simp
        · simp [hy0]
      refine ⟨w.setRow b' (catC (us ++ a.eval y :: ts)).toArray, ?_, ?_, some b', setRow_gr b' _, fun b hb => ⟨_, _, hr, by cases hb; rfl⟩⟩
      · rw [← hsp]
        simp [execOp, h1, Instr.storeAt, Instr.sureAddr, hrun]
      · refine ha.upd r (setRow_gr b' _) (fun b hb => ⟨_, _, hr, by cases hb; rfl⟩) (fun b hb => .inl ⟨_, _, hr, hb⟩) (fun S' k' => .inr ⟨b', _, rfl, setRow_heap w b' _ _ T _ hB, b', us ++ a.eval y :: ts, rfl, rfl, ?_⟩)
        exact (h5.mono k').mk ⟨e.mono k' hy1, h8.mono k'⟩
theorem stoE {t T : TypeId} {x y : Operand} {v z : Value} {by_ k n : Nat} {es es' : List Ent} {e : Ent} (r : Nat) (hx : opE l x = some (.val (ptrTo v k))) (hr : lr res r = some (v, .box T es)) (hf : Swap es k n e es')
    (hy : opE l y = some e) (h1e : e.ones) (hn : e.fills n) (hS : TI P t z n by_) : EffS P Γ l res ⟨none, .store t x y, ty, pos, after, g⟩ r (v, .box T es') := fun a w ha => stoE' ha r hx hr hf hy h1e hn hS

/-! ### slices as lists -/
/-- a part x of a slice v of the call's own, which holds l -/
def Ent.vw {α : Type} (R : Rep α) (v : Value) (b x : List α) : Ent := ⟨fun _ _ u => (u = v ∧ x = b ∧ u.oneCell' = true) ∨ (u = .slice none 0 0 ∧ x = []) ∨ ∃ k o sp cap i, u = .slice (some ⟨k, o, sp⟩) x.length cap ∧ rblk v = some k ∧ x.length ≤ cap ∧ cap ≤ maxLen ∧ (x ≠ [] → sp = none ∧ o = i * R.sz) ∧ (b.drop i).take x.length = x, fun _ h => h⟩
/-- a pointer to an element y of it -/
def Ent.vp {α : Type} (R : Rep α) (v : Value) (b : List α) (y : α) : Ent := ⟨fun _ _ u => ∃ k i, u = .pointer (some ⟨k, i * R.sz, none⟩) ∧ rblk v = some k ∧ b[i]? = some y, fun _ h => h⟩
/-- An entry that reads as a list: a slice that is read, one of the call's own, none, a part of one of the call's own. -/
inductive Vw {α : Type} (R : Rep α) (res : Res) : Ent → List α → Prop
  | rd {b : List α} : Vw R res (.rd (sliceR R) b) b
  | own {v : Value} {T : TypeId} {b : List α} (r : Nat) (h : lr res r = some (v, .list R T b)) : Vw R res (.val v) b
  | nil : Vw R res (.val (.slice none 0 0)) []
  | vw {v : Value} {T : TypeId} {b x : List α} (r : Nat) (h : lr res r = some (v, .list R T b)) : Vw R res (.vw R v b x) x
theorem Vw.get {α : Type} {R : Rep α} {e : Ent} {b : List α} (h : Vw R res e b) {a : Act} {w : World} (ha : Sta Γ l res a w) {v : Value} (hv : e.holds (Shr Γ.H res w) w v) :
    ∃ p c xs, v = .slice p b.length c ∧ Rd w (.slice p b.length c) b.length R.sz xs ∧ relL R (Shr Γ.H res w) w xs b := by
  cases h with
  | rd =>
    obtain ⟨cs, ⟨p, c, xs, h1, h2, h3, h4⟩, h5⟩ := hv
    subst h1
    exact ⟨p, c, xs, h5, h2, h3⟩
  | own r h =>
    obtain ⟨rfl, -⟩ := hv
    obtain ⟨xs, h1, h2⟩ := list_owns (ha.conts r v _ h)
    obtain ⟨p, c, rfl⟩ := slice_form h1
    exact ⟨p, c, xs, rfl, Rd.of_own h1, h2⟩
  | nil =>
    obtain ⟨rfl, -⟩ := hv
    exact ⟨none, 0, [], rfl, Rd.nil _ _, rfl⟩
  | vw r h =>
    rename_i u T bl
    rcases hv with ⟨rfl, rfl, -⟩ | ⟨rfl, rfl⟩ | ⟨k, o, sp, cap, i, rfl, hk, h1, h2, h3, h4⟩
    · obtain ⟨xs, h1, h2⟩ := list_owns (ha.conts r _ _ h)
      obtain ⟨p, c, rfl⟩ := slice_form h1
      exact ⟨p, c, xs, rfl, Rd.of_own h1, h2⟩
    · exact ⟨none, 0, [], rfl, Rd.nil _ _, rfl⟩
    · rcases ha.conts r u _ h with ⟨q1, -⟩ | ⟨b', ob, g1, g2, bb, cp, Cc, rfl, rfl, g3, g4, g5, g6⟩
      · rw [q1] at hk; cases hk
      · simp only [rblk, Option.some.injEq] at g1 hk
        subst g1; subst hk
        have hrel := (g6.drop i).take b.length
        rw [h4] at hrel
        refine ⟨_, cap, _, rfl, ⟨hrel.len, .inr ⟨bb, o, sp, cap, rfl, h1, h2, ?_, fun j w0 hj => ?_⟩⟩, hrel⟩
        · by_cases hx : b = []
          · left; rw [hx]; simp
          · exact .inr (h3 hx).1
        · have hx : b ≠ [] := fun e => by rw [e] at hj; simp at hj
          obtain ⟨-, rfl⟩ := h3 hx
          rw [List.getElem?_take] at hj
          split at hj
          · rw [List.getElem?_drop, List.getElem?_take] at hj
            split at hj
            · unfold World.cell?
              rw [g2]; simpa using hj
            · cases hj
          · cases hj
theorem len' {α : Type} {R : Rep α} {b : List α} {x : Operand} {T e : TypeId} {at_ : Array TypeId} {E : Ent} (hx : opE l x = some E) (hv : Vw R res E b) (hat : at_[0]? = some T) (hT : P.underlying T = some (.slice e)) :
    Run C P Γ l res ⟨some d, .call ⟨.builtin .len, #[x], at_⟩, ty, pos, after, g⟩ (.rd i64R (b.length : Int)) := fun a w ha => by
  obtain ⟨p, c, xs, h1, h2, h3⟩ := hv.get ha (ha.vl hx)
  exact ⟨_, fun w' _ => q0_lenS hat hT h1, rd_num'⟩
/-- a part of a slice, as Go cuts it (within its length) -/
def cut {α : Type} (b : List α) (i j : Int) : Option (List α) := if 0 ≤ i ∧ i ≤ j ∧ j ≤ b.length then some ((b.drop i.toNat).take (j.toNat - i.toNat)) else none
theorem cut_some {α : Type} {b b' : List α} {i j : Int} (h : cut b i j = some b') : 0 ≤ i ∧ i ≤ j ∧ j ≤ b.length ∧ (b.drop i.toNat).take (j.toNat - i.toNat) = b' := by
  unfold cut at h
  split at h
  · rename_i hh; cases h; exact ⟨hh.1, hh.2.1, hh.2.2, rfl⟩
  · cases h
/-- the bounds of a cut -/
inductive Bnd (l : Slots) (dflt : Int) : Option Operand → Int → Prop
  | no : Bnd l dflt none dflt
  | to {α : Type} {k : IntKind} {f : α → Int} {x : Operand} {j : α} (h : opE l x = some (.rd (numR k f) j)) : Bnd l dflt (some x) (f j)
theorem Bnd.get {x : Option Operand} {dflt i : Int} (h : Bnd l dflt x i) {a : Act} {w : World} (ha : Sta Γ l res a w) : (x = none ∧ i = dflt) ∨ ∃ y k, x = some y ∧ a.eval y = .int k i := by
  cases h with
  | no => exact .inl ⟨rfl, rfl⟩
  | to h => exact .inr ⟨_, _, rfl, rd_num (ha.vl h)⟩
theorem bounds_run {isS : Bool} {n cp : Nat} {lo hi : Option Operand} {i j : Int} (hlo : Bnd l 0 lo i) (hhi : Bnd l (n : Int) hi j) {a : Act} {w : World} (ha : Sta Γ l res a w) (h0 : 0 ≤ i) (hij : i ≤ j) (hj : j ≤ n) (hcap : n ≤ cp) (w' : World) :
    (Instr.sliceBounds isS n cp (lo.map a.eval) (hi.map a.eval) none).run P w' = .ok (i.toNat, j.toNat, cp) w' := by
  obtain ⟨i', rfl⟩ : ∃ i' : Nat, i = (i' : Int) := ⟨i.toNat, by omega⟩
  obtain ⟨j', rfl⟩ : ∃ j' : Nat, j = (j' : Int) := ⟨j.toNat, by omega⟩
  have e1 : ¬ ((cp : Int) < (j' : Int)) := by omega
  have h1 : (j' : Int) ≤ (cp : Int) := by omega
  have h2 : j' ≤ cp := by omega
  have h3 : i' ≤ j' := by omega
  rcases hlo.get ha with ⟨rfl, hi0⟩ | ⟨y, k, rfl, hy⟩ <;> rcases hhi.get ha with ⟨rfl, hj0⟩ | ⟨y', k', rfl, hy'⟩
  · have : i' = 0 := by omega
    have : j' = n := by omega
    subst i' j'
    simp [Instr.sliceBounds]
  · have : i' = 0 := by omega
    subst i'
    simp [Instr.sliceBounds, hy', Instr.sliceBound, asIntOf, h2]
  · have : j' = n := by omega
    subst j'
    simp [Instr.sliceBounds, hy, Instr.sliceBound, asIntOf, h3]
  · simp [Instr.sliceBounds, hy, hy', Instr.sliceBound, asIntOf, h2, h3]
theorem cut' {α : Type} {R : Rep α} {b b' : List α} {x : Operand} {lo hi : Option Operand} {i j : Int} {T e : TypeId} {z : Value} {by_ : Nat} (hx : opE l x = some (.rd (sliceR R) b)) (hlo : Bnd l 0 lo i) (hhi : Bnd l (b.length : Int) hi j) (hb : cut b i j = some b')
    (hT : P.underlying T = some (.slice e)) (hE : TI P e z R.sz by_) : Run C P Γ l res ⟨some d, .slice T x lo hi none, ty, pos, after, g⟩ (.rd (sliceR R) b') := fun a w ha => by
  obtain ⟨h1, h2, h3, rfl⟩ := cut_some hb
  obtain ⟨cs, ⟨p, c, xs, k1, k2, k3, k4⟩, k5⟩ := ha.vl hx
  subst k1
  have k5 : a.eval x = .slice p b.length c := k5
  have hcap : b.length ≤ c := by
    rcases k2.2 with ⟨hv, h0⟩ | ⟨_, o, sp, cap, hv, g1, _⟩
    · omega
    · simp only [Value.slice.injEq, true_and] at hv; omega
  have hlen : ((b.drop i.toNat).take (j.toNat - i.toNat)).length = j.toNat - i.toNat := by simp; omega
  have hsub := k2.sub rfl (i := i.toNat) (j := j.toNat) (by omega) (by omega)
  refine ⟨.slice (if c = i.toNat then p else p.map (·.add (i.toNat * R.sz))) ((b.drop i.toNat).take (j.toNat - i.toNat)).length (c - i.toNat), fun w' _ => ?_, _, ⟨_, _, _, rfl, by rw [hlen]; exact hsub, ?_, fun hne bb hbb => ?_⟩, rfl⟩
  · have hb := bounds_run (P := P) (isS := true) hlo hhi ha h1 h2 h3 hcap w'
    rw [hlen]
    simp only [execOp, Instr.sliceAt, k5, Sem.run_bind, run_underlying hT, Result.andThen, Instr.slice, hb, run_sizeOf hE, Sem.run_pure, Option.map_none]
  · have := (k3.drop i.toNat).take (j.toNat - i.toNat)
    exact this
  · refine k4 (fun e0 => hne (by rw [e0]; simp)) bb ?_
    have h7 := sub_own (p := p) (m := b.length) (cp := c) (i := i.toNat) (j := j.toNat - i.toNat) (k := c - i.toNat) (sz := R.sz)
    rw [sblk_own, sblk_own] at h7
    rw [← h7]; exact hbb
/-- a part of a string -/
theorem cutT {b b' : List UInt8} {x : Operand} {lo hi : Option Operand} {i j : Int} {T : TypeId} (hx : opE l x = some (.rd strR b)) (hlo : Bnd l 0 lo i) (hhi : Bnd l (b.length : Int) hi j) (hb : cut b i j = some b')
    (hT : P.underlying T = some .string) : Run C P Γ l res ⟨some d, .slice T x lo hi none, ty, pos, after, g⟩ (.rd strR b') := fun a w ha => by
  obtain ⟨h1, h2, h3, rfl⟩ := cut_some hb
  obtain ⟨s, k1, rfl⟩ := rd_str (ha.vl hx)
  have hsz : s.data.toList.length = s.size := by simp
  rw [hsz] at hhi h3
  refine ⟨.string (s.extract i.toNat j.toNat), fun w' _ => ?_, _, ⟨_, rfl, ?_⟩, rfl⟩
  · have hb := bounds_run (P := P) (isS := false) hlo hhi ha h1 h2 h3 (Nat.le_refl _) w'
    simp only [execOp, Instr.sliceAt, k1, Sem.run_bind, run_underlying hT, Result.andThen, Instr.slice, hb, Sem.run_pure, Option.map_none, Option.isSome_none, Bool.false_eq_true, if_false]
  · rw [ByteArray.data_extract, Array.toList_extract, List.extract_eq_take_drop]
end
end Go.Proofs.Ytklfgpdfongaeaa
