/- Structs in parts, in regions that draw their order. Over any program. Printed by mkki.py. -/
import Derived.Test.YtklfgpdfongaeaaKG
namespace Go.Proofs.Ytklfgpdfongaeaa
open Go Go.RowKit
set_option linter.unusedSimpArgs false
set_option linter.unusedVariables false
section
variable {S : Blk} {w : World} {v : Value} {T : TypeId}
theorem box_split {α : Type} {R : Rep α} {x : α} {es : List Ent} (hs : Sp R x es) (h : (Cont.box T [.rd R x]).holds S w v) : (Cont.box T es).holds S w v := by
  rcases h with h | ⟨b, o, h1, h2, b', vs, rfl, rfl, h3⟩
  · exact h.elim
  · match vs, h3 with
    | [u], ⟨⟨cs, k1, k2⟩, _⟩ =>
      subst k2
      obtain ⟨vs', k3, k4⟩ := (hs.2 _ w cs).1 k1
      exact .inr ⟨b, _, h1, h2, b', vs', rfl, by rw [k4]; simp [catC, Rep.val_cells k1], k3⟩
theorem box_join {α : Type} {R : Rep α} {x : α} {es : List Ent} (hs : Sp R x es) (h : (Cont.box T es).holds S w v) : (Cont.box T [.rd R x]).holds S w v := by
  rcases h with h | ⟨b, o, h1, h2, b', vs, rfl, rfl, h3⟩
  · exact h.elim
  · have k1 := (hs.2 _ w (catC vs)).2 ⟨vs, h3, rfl⟩
    exact .inr ⟨b, _, h1, h2, b', [R.val (catC vs)], rfl, by rw [show catC [R.val (catC vs)] = catC vs by rw [catC_cons, Rep.val_cells k1]; simp [catC]], ⟨_, k1, rfl⟩, trivial⟩
theorem box_nil {α : Type} (R : Rep α) {es es' pre post : List Ent} (h1 : es = pre ++ .val (.slice none 0 0) :: post) (h2 : es' = pre ++ .rd (sliceR R) [] :: post) (h : (Cont.box T es).holds S w v) : (Cont.box T es').holds S w v := by
  rcases h with h | ⟨b, o, k1, k2, b', vs, rfl, rfl, k3⟩
  · exact h.elim
  · exact .inr ⟨b, _, k1, k2, b', vs, rfl, rfl, Swap.holds h1 h2 (fun v hv => val_nil_rd R hv) k3⟩
end
section
variable {ρ : Type} {P : Program} {Γ : Ctx} {l l0 : Slots} {res res0 : Res} {ws : List Nat} {m : Option ρ} {os : List Oper} {N : ρ → Exit → Act → World → Prop} {fuel i : Nat} {listed : Array Bool} {a : Act} {w0 w : World}
theorem SH.recont (h : SH Γ l0 res0 ws l res a w0 w) (r : Nat) {v : Value} {c c' : Cont} (hr : lr res r = some (v, c)) (hc : c'.holds (Shr Γ.H res w) w v) : SH Γ l0 res0 ws l ((r, some (v, c')) :: res) a w0 w := by
  have hu := h.s.upd r (v := v) (c := c') (wr := none) Ext.rfl'.gb (by simp) (fun b hb => .inl ⟨v, c, hr, hb⟩) (fun S' k' => hc.mono k' (fun b hb => rfl))
  refine ⟨h.s0, hu.1, h.cw, h.st.tr hu.2, fun r2 v2 c2 b2 h1 h2 h3 => ?_⟩
  rw [lr_cons] at h2
  split at h2
  · rename_i e; subst e; cases h2; exact h.wsp _ v c b2 h1 hr h3
  · exact h.wsp r2 v2 c2 b2 h1 h2 h3
theorem SH.drop {α : Type} {R : Rep α} {E : TypeId} {b : List α} {v : Value} (h : SH Γ l0 res0 ws l res a w0 w) (q : Nat) (hq : lr res q = some (v, .list R E b)) : SH Γ l0 res0 ws l ((q, none) :: res) a w0 w := by
  refine ⟨h.s0, by simpa using h.s.frz (R := R) (T := E) (b := b) q [] hq trivial, h.cw, fun bb hb => ⟨?_, (h.st bb hb).2⟩, fun r2 v2 c2 b2 h1 h2 => ?_⟩
  · have h1 := (h.st bb hb).1
    refine ⟨h1.1, fun r2 v2 c2 h2 => ?_, h1.2.2⟩
    rw [lr_cons] at h2
    split at h2
    · cases h2
    · exact h1.2.1 r2 v2 c2 h2
  · rw [lr_cons] at h2
    split at h2
    · cases h2
    · exact h.wsp r2 v2 c2 b2 h1 h2
theorem SH.partOwn {α : Type} {R : Rep α} {b : List α} {es es' : List Ent} {T E : TypeId} {v u : Value} (h : SH Γ l0 res0 ws l res a w0 w) (r q : Nat) (pre post : List Ent) (hne : r ≠ q) (hr : lr res r = some (v, .box T es)) (hq : lr res q = some (u, .list R E b)) (h1 : es = pre ++ .val u :: post) (h2 : es' = pre ++ .rd (sliceR R) b :: post) : SH Γ l0 res0 ws l ((r, some (v, .box T es')) :: (q, none) :: res) a w0 w := by
  have hd := h.drop q hq
  have hr' : lr ((q, none) :: res) r = some (v, .box T es) := (lr_cons.trans (if_neg (fun e => hne e.symm))).trans hr
  have hc := (h.s.partOwn r q pre post hne hr hq h1 h2).conts r v _ (lr_cons.trans (if_pos rfl))
  refine hd.recont r hr' (hc.mono (fun bb hb => ⟨⟨hb.1, fun r2 v2 c2 k2 => ?_, hb.2.2⟩, rfl⟩) (fun _ _ => rfl))
  by_cases e : r = r2
  · subst e
    rw [hr'] at k2; cases k2
    exact hb.2.1 r v _ (lr_cons.trans (if_pos rfl))
  · exact hb.2.1 r2 v2 c2 ((lr_cons.trans (if_neg e)).trans k2)
/-- no slice as an argument: it reads as a list without elements -/
theorem aNil {α : Type} {R : Rep α} {l : Slots} {o : Operand} {os : List Operand} {ps : List Ent} (h : opE l o = some (.val (.slice none 0 0))) (k : ArgsQ l os ps) : ArgsQ l (o :: os) (.rd (sliceR R) [] :: ps) := ⟨⟨_, h, fun _ _ _ h => val_nil_rd R h⟩, k⟩
theorem nonil {α : Type} {R : Rep α} {T : TypeId} {l : List α} {i : Int} {x : α} (h : idx l i = some x) : ∀ S w v, ¬ (Cont.list R T l).nil S w v := fun S w v hv => by rw [hv.2] at h; simp [idx] at h

theorem hSpl {α : Type} {R : Rep α} {x : α} {es : List Ent} {T : TypeId} {v : Value} (r : Nat) (hr : lr res r = some (v, .box T [.rd R x])) (hs : Sp R x es) (k : GH P os Γ l0 res0 ws l ((r, some (v, .box T es)) :: res) N fuel listed m) : GH P os Γ l0 res0 ws l res N fuel listed m := fun a w0 w ha => k a w0 w (ha.recont r hr (box_split hs (ha.s.conts r v _ hr)))
theorem hJoi {α : Type} {R : Rep α} (x : α) {es : List Ent} {T : TypeId} {v : Value} (r : Nat) (hr : lr res r = some (v, .box T es)) (hs : Sp R x es) (k : GH P os Γ l0 res0 ws l ((r, some (v, .box T [.rd R x])) :: res) N fuel listed m) : GH P os Γ l0 res0 ws l res N fuel listed m := fun a w0 w ha => k a w0 w (ha.recont r hr (box_join hs (ha.s.conts r v _ hr)))
theorem hPnl {α : Type} (R : Rep α) {es : List Ent} (es' : List Ent) {T : TypeId} {v : Value} (r : Nat) (pre post : List Ent) (hr : lr res r = some (v, .box T es)) (h1 : es = pre ++ .val (.slice none 0 0) :: post) (h2 : es' = pre ++ .rd (sliceR R) [] :: post) (k : GH P os Γ l0 res0 ws l ((r, some (v, .box T es')) :: res) N fuel listed m) : GH P os Γ l0 res0 ws l res N fuel listed m := fun a w0 w ha => k a w0 w (ha.recont r hr (box_nil R h1 h2 (ha.s.conts r v _ hr)))
theorem hPow {α : Type} {R : Rep α} {b : List α} {es : List Ent} (es' : List Ent) {T E : TypeId} {v u : Value} (r q : Nat) (pre post : List Ent) (hne : (r == q) = false) (hr : lr res r = some (v, .box T es)) (hq : lr res q = some (u, .list R E b)) (h1 : es = pre ++ .val u :: post) (h2 : es' = pre ++ .rd (sliceR R) b :: post) (k : GH P os Γ l0 res0 ws l ((r, some (v, .box T es')) :: (q, none) :: res) N fuel listed m) : GH P os Γ l0 res0 ws l res N fuel listed m := fun a w0 w ha => k a w0 w (ha.partOwn r q pre post (by simpa using hne) hr hq h1 h2)
theorem oSpl {α : Type} {R : Rep α} {x : α} {es : List Ent} {T : TypeId} {v : Value} (r : Nat) (hr : lr res r = some (v, .box T [.rd R x])) (hs : Sp R x es) (k : GO P os Γ l0 res0 ws l ((r, some (v, .box T es)) :: res) N fuel listed i m) : GO P os Γ l0 res0 ws l res N fuel listed i m := fun a w0 w ha => k a w0 w (ha.recont r hr (box_split hs (ha.s.conts r v _ hr)))
theorem oJoi {α : Type} {R : Rep α} (x : α) {es : List Ent} {T : TypeId} {v : Value} (r : Nat) (hr : lr res r = some (v, .box T es)) (hs : Sp R x es) (k : GO P os Γ l0 res0 ws l ((r, some (v, .box T [.rd R x])) :: res) N fuel listed i m) : GO P os Γ l0 res0 ws l res N fuel listed i m := fun a w0 w ha => k a w0 w (ha.recont r hr (box_join hs (ha.s.conts r v _ hr)))
theorem oPnl {α : Type} (R : Rep α) {es : List Ent} (es' : List Ent) {T : TypeId} {v : Value} (r : Nat) (pre post : List Ent) (hr : lr res r = some (v, .box T es)) (h1 : es = pre ++ .val (.slice none 0 0) :: post) (h2 : es' = pre ++ .rd (sliceR R) [] :: post) (k : GO P os Γ l0 res0 ws l ((r, some (v, .box T es')) :: res) N fuel listed i m) : GO P os Γ l0 res0 ws l res N fuel listed i m := fun a w0 w ha => k a w0 w (ha.recont r hr (box_nil R h1 h2 (ha.s.conts r v _ hr)))
theorem oPow {α : Type} {R : Rep α} {b : List α} {es : List Ent} (es' : List Ent) {T E : TypeId} {v u : Value} (r q : Nat) (pre post : List Ent) (hne : (r == q) = false) (hr : lr res r = some (v, .box T es)) (hq : lr res q = some (u, .list R E b)) (h1 : es = pre ++ .val u :: post) (h2 : es' = pre ++ .rd (sliceR R) b :: post) (k : GO P os Γ l0 res0 ws l ((r, some (v, .box T es')) :: (q, none) :: res) N fuel listed i m) : GO P os Γ l0 res0 ws l res N fuel listed i m := fun a w0 w ha => k a w0 w (ha.partOwn r q pre post (by simpa using hne) hr hq h1 h2)
end
end Go.Proofs.Ytklfgpdfongaeaa
