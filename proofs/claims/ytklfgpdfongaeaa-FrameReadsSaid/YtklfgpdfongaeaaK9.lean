/- Regions that draw their order, with calls and stores. Over any program. -/
import Derived.Test.YtklfgpdfongaeaaK8
namespace Go.Proofs.Ytklfgpdfongaeaa
open Go Go.RowKit
set_option linter.unusedSimpArgs false
set_option linter.unusedVariables false

/-- what a panic finds behind it does not hang on the slots -/
class PanicOk {ρ : Type} (N : ρ → Exit → Act → World → Prop) : Prop where
  ok : ∀ (r : ρ) (d : Nat) (v : Value) c a w, N r (.panic c) (a.put (some d) v) w → N r (.panic c) a w
instance {ρ : Type} {P : Program} {y : Code} {Q : ρ → Exit → Act → World → Prop} [h : PanicOk Q] : PanicOk (thenQ P y Q) := ⟨fun r d v c a w k => h.ok r d v c a w k⟩
instance {ρ : Type} {i : Nat} {Q : ρ → Exit → Act → World → Prop} [h : PanicOk Q] : PanicOk (blkQ i Q) := ⟨fun r d v c a w k => h.ok r d v c a w k⟩
instance {ρ : Type} {P : Program} {fn : Func} {H : Blk} {rin : Res} {q : ρ → (Nat → Value) → Post} {w : World} : PanicOk (endQ P fn H rin q w) := ⟨fun r d v c a w k => k⟩
instance {σ β : Type} {i : Nat} {As : σ → Asn} {M : β → Exit → Act → World → Prop} [h : PanicOk M] : PanicOk (loopQ i As M) := ⟨fun r d v c a w k => by
  cases r with
  | inl b => exact ⟨k.1, h.ok b d v c a w k.2⟩
  | inr s => exact absurd k.1 (by simp)⟩
instance {τ : Type} {Bs : τ → Asn} : PanicOk (midQ Bs) := ⟨fun r d v c a w k => absurd k.1 (by simp)⟩
instance {τ ρ : Type} {Bs : τ → Asn} {Q : ρ → Exit → Act → World → Prop} [h : PanicOk Q] : PanicOk (midR Bs Q) := ⟨fun r d v c a w k => by
  cases r with
  | inl b => exact ⟨k.1, h.ok b d v c a w k.2⟩
  | inr s => exact absurd k.1 (by simp)⟩
/-- Inside a region: what was known where it began (l0, res0 at w0), and what is known now. ws: the resources that may be written. -/
structure SH (Γ : Ctx) (l0 : Slots) (res0 : Res) (ws : List Nat) (l : Slots) (res : Res) (a : Act) (w0 w : World) : Prop where
  s0 : Sta Γ l0 res0 a w0
  s : Sta Γ l res a w
  cw : CW res0 ws w0 w
  st : Stay (Shr Γ.H res0 w0) (Shr Γ.H res w) w0 w
  wsp : ∀ r v c b, ws.contains r = true → lr res r = some (v, c) → rblk v = some b → (∃ r0 v0 c0, ws.contains r0 = true ∧ lr res0 r0 = some (v0, c0) ∧ rblk v0 = some b) ∨ w0.heap.size ≤ b
section
variable {ρ : Type} {P : Program} {Γ : Ctx} {l l0 : Slots} {res res0 : Res} {ws : List Nat} {m m1 m2 : Option ρ} {os : List Oper} {N : ρ → Exit → Act → World → Prop}
  {d : Tmp} {op : Op} {ty : TypeId} {pos : String} {after : Array Edge} {g : Option (Nat × Bool)} {fuel i : Nat} {listed listed' : Array Bool} {rest : List Oper}
def GH (P : Program) (ops : List Oper) (Γ : Ctx) (l0 : Slots) (res0 : Res) (ws : List Nat) (l : Slots) (res : Res) (N : ρ → Exit → Act → World → Prop) (fuel : Nat) (listed : Array Bool) (m : Option ρ) : Prop :=
  ∀ a w0 w, SH Γ l0 res0 ws l res a w0 w → ∀ r, m = some r → wpAnyH P .any ops.toArray (N r) (CW res0 ws w0) fuel listed a w
theorem SH.put {a : Act} {w0 w : World} (h : SH Γ l0 res0 ws l res a w0 w) {v : Value} {e0 e : Ent} (hn : Nat.blt d Γ.n = true) (h0 : e0.holds (Shr Γ.H res0 w0) w0 v) (he : e.holds (Shr Γ.H res w) w v) :
    SH Γ ((d, e0) :: l0) res0 ws ((d, e) :: l) res (a.put (some d) v) w0 w := ⟨h.s0.put hn h0, h.s.put hn he, h.cw, h.st, h.wsp⟩
/-- the region is begun -/
theorem gRegH {id sz : Nat} {ls : Array Bool} {Q : ρ → Exit → Act → World → Prop} (ws : List Nat) (hm : P.follows .mixedOrders = true) (hz : os.toArray.size = sz) (hl : Array.replicate sz false = ls)
    (h : GH P os Γ l res ws l res Q sz ls m) : G P (Sta Γ l res) (.region id os.toArray true) Q m := fun a w ha r hr => by
  refine wp_region_held (S := CW res ws { w with drawn := w.drawn + 1 }) hm ?_
  have hE : Ext w { w with drawn := w.drawn + 1 } := Ext.rfl'.dr
  have ha' := ha.ext hE
  have := h a _ _ ⟨ha', ha', Keep.rfl', Stay.rfl', fun r v c b hw h1 h2 => .inl ⟨r, v, c, hw, h1, h2⟩⟩ r hr
  rw [hz, hl]
  exact this
theorem hIf (t : Nat) {b : Bool} (h0 : lk l0 t = some (.rd boolR b)) (hb : lk l t = some (.rd boolR b)) (ht : b = true → GH P os Γ ((t, .rd boolR true) :: l0) res0 ws ((t, .rd boolR true) :: l) res N fuel listed m1) (hf : b = false → GH P os Γ ((t, .rd boolR false) :: l0) res0 ws ((t, .rd boolR false) :: l) res N fuel listed m2) :
    GH P os Γ l0 res0 ws l res N fuel listed (if b then m1 else m2) := by
  intro a w0 w ha r hr
  cases b with
  | true => exact ht rfl a w0 w ⟨ha.s0.known h0 rfl, ha.s.known hb rfl, ha.cw, ha.st, ha.wsp⟩ r (by simpa using hr)
  | false => exact hf rfl a w0 w ⟨ha.s0.known h0 rfl, ha.s.known hb rfl, ha.cw, ha.st, ha.wsp⟩ r (by simpa using hr)
theorem hBind {σ : Type} {m : Option σ} {k : σ → Option ρ} (h : ∀ s, m = some s → GH P os Γ l0 res0 ws l res N fuel listed (k s)) : GH P os Γ l0 res0 ws l res N fuel listed (m >>= k) := fun a w0 w ha r hr => by
  cases hm : m with
  | none => rw [hm] at hr; cases hr
  | some s => rw [hm] at hr; exact h s hm a w0 w ha r hr
theorem Sta.name {α : Type} {R : Rep α} {x y : α} {t : Nat} {a : Act} {w : World} (ha : Sta Γ l res a w) (hx : lk l t = some (.rd R x)) (e : x = y) : Sta Γ ((t, .rd R y) :: l) res a w := by
  subst e
  refine { ha with slots := fun t' e' ht' => ?_ }
  rw [lk_cons] at ht'
  split at ht'
  · rename_i hh; subst hh; cases ht'; exact ha.slots t _ hx
  · exact ha.slots t' e' ht'
theorem hName {α : Type} {R : Rep α} {x : α} {k : α → Option ρ} (t : Nat) (h0 : lk l0 t = some (.rd R x)) (hx : lk l t = some (.rd R x)) (h : ∀ y, GH P os Γ ((t, .rd R y) :: l0) res0 ws ((t, .rd R y) :: l) res N fuel listed (k y)) : GH P os Γ l0 res0 ws l res N fuel listed (some x >>= k) := fun a w0 w ha r hr =>
  h x a w0 w ⟨ha.s0.name h0 rfl, ha.s.name hx rfl, ha.cw, ha.st, ha.wsp⟩ r hr
theorem hFrz {α : Type} {R : Rep α} {T : TypeId} {b : List α} {v : Value} (r : Nat) (ts : List Nat) (hr : lr res r = some (v, .list R T b)) (ht : FrL l v ts) (k : GH P os Γ (ts.map (fun t => (t, .junk)) ++ l0) res0 ws (ts.map (fun t => (t, .rd (sliceR R) b)) ++ l) ((r, none) :: res) N fuel listed m) : GH P os Γ l0 res0 ws l res N fuel listed m := fun a w0 w ha r' hr' => by
  refine k a w0 w ⟨?_, ha.s.frz r ts hr ht, ha.cw, fun bb hb => ⟨?_, (ha.st bb hb).2⟩, fun r2 v2 c2 b2 h1 h2 => ?_⟩ r' hr'
  · refine { ha.s0 with slots := fun t' e' ht' => ?_ }
    rw [lk_put] at ht'
    split at ht'
    · rename_i hh; cases ht'
      obtain ⟨u, h1, _⟩ := ha.s.slots t' _ (ht.get hh)
      exact ⟨u, h1, trivial⟩
    · exact ha.s0.slots t' e' ht'
  · have h1 := (ha.st bb hb).1
    refine ⟨h1.1, fun r2 v2 c2 h2 => ?_, h1.2.2⟩
    rw [lr_cons] at h2
    split at h2
    · cases h2
    · exact h1.2.1 r2 v2 c2 h2
  · rw [lr_cons] at h2
    split at h2
    · cases h2
    · exact ha.wsp r2 v2 c2 b2 h1 h2
/-- what only reads is taken first -/
theorem hTake [PanicOk N] {e : Ent} (i : Nat) (hi : os.toArray[i]? = some ⟨some d, op, ty, pos, after, g⟩) (hs : Region.noSelect os.toArray = true) (hf : Region.free .any os.toArray listed i = true) (hr : (Region.ready .any os.toArray listed).contains i = true)
    (hg : Grd os l ⟨some d, op, ty, pos, after, g⟩ true) (hn : Nat.blt d Γ.n = true) (hl : listed.setIfInBounds i true = listed')
    (he : Run (CW res0 ws) P Γ l0 res0 ⟨some d, op, ty, pos, after, g⟩ e) (k : GH P os Γ ((d, e) :: l0) res0 ws ((d, e) :: l) res N fuel listed' m) : GH P os Γ l0 res0 ws l res N (fuel + 1) listed m := fun a w0 w ha r hm => by
  obtain ⟨v, h1, h2⟩ := he a w0 ha.s0
  refine wpAnyH_take hi hs hf hr (fun c a w h => PanicOk.ok r _ v c a w h) (.inl ⟨hg.wanted ha.s, fun w' hw' => h1 w' hw'⟩) ha.cw ?_
  rw [hl]
  exact k _ w0 w (ha.put hn h2 (e.mono ha.st h2)) r hm
/-- what does not look at the world is taken first -/
theorem hTakeP [PanicOk N] {e : Ent} (i : Nat) (hi : os.toArray[i]? = some ⟨some d, op, ty, pos, after, g⟩) (hs : Region.noSelect os.toArray = true) (hf : Region.free .any os.toArray listed i = true) (hr : (Region.ready .any os.toArray listed).contains i = true)
    (hg : Grd os l ⟨some d, op, ty, pos, after, g⟩ true) (hn : Nat.blt d Γ.n = true) (hl : listed.setIfInBounds i true = listed')
    (he : Run AnyW P Γ l res ⟨some d, op, ty, pos, after, g⟩ e) (k : GH P os Γ ((d, .junk) :: l0) res0 ws ((d, e) :: l) res N fuel listed' m) : GH P os Γ l0 res0 ws l res N (fuel + 1) listed m := fun a w0 w ha r hm => by
  obtain ⟨v, h1, h2⟩ := he a w ha.s
  refine wpAnyH_take hi hs hf hr (fun c a w h => PanicOk.ok r _ v c a w h) (.inl ⟨hg.wanted ha.s, fun w' hw' => h1 w' trivial⟩) ha.cw ?_
  rw [hl]
  exact k _ w0 w (ha.put hn trivial h2) r hm
theorem hTakeF [PanicOk N] {e : Ent} (i : Nat) (hi : os.toArray[i]? = some ⟨some d, op, ty, pos, after, g⟩) (hs : Region.noSelect os.toArray = true) (hf : Region.free .any os.toArray listed i = true) (hr : (Region.ready .any os.toArray listed).contains i = true)
    (hg : Grd os l ⟨some d, op, ty, pos, after, g⟩ true) (hn : Nat.blt d Γ.n = true) (hl : listed.setIfInBounds i true = listed')
    (hfl : e.flat) (he : Run AnyW P Γ l res ⟨some d, op, ty, pos, after, g⟩ e) (k : GH P os Γ ((d, e) :: l0) res0 ws ((d, e) :: l) res N fuel listed' m) : GH P os Γ l0 res0 ws l res N (fuel + 1) listed m := fun a w0 w ha r hm => by
  obtain ⟨v, h1, h2⟩ := he a w ha.s
  refine wpAnyH_take hi hs hf hr (fun c a w h => PanicOk.ok r _ v c a w h) (.inl ⟨hg.wanted ha.s, fun w' hw' => h1 w' trivial⟩) ha.cw ?_
  rw [hl]
  exact k _ w0 w (ha.put hn (hfl _ _ _ _ _ h2) h2) r hm
theorem hSkip [PanicOk N] (i : Nat) (hi : os.toArray[i]? = some ⟨some d, op, ty, pos, after, g⟩) (hs : Region.noSelect os.toArray = true) (hf : Region.free .any os.toArray listed i = true) (hr : (Region.ready .any os.toArray listed).contains i = true)
    (hg : Grd os l ⟨some d, op, ty, pos, after, g⟩ false) (hn : Nat.blt d Γ.n = true) (hl : listed.setIfInBounds i true = listed')
    (k : GH P os Γ ((d, .un) :: l0) res0 ws ((d, .un) :: l) res N fuel listed' m) : GH P os Γ l0 res0 ws l res N (fuel + 1) listed m := fun a w0 w ha r hm => by
  refine wpAnyH_take hi hs hf hr (fun c a w h => PanicOk.ok r _ undef c a w h) (.inr ⟨hg.wanted ha.s, rfl⟩) ha.cw ?_
  rw [hl]
  exact k _ w0 w (ha.put hn rfl rfl) r hm
theorem hDone (hr : Region.ready .any os.toArray listed = []) (h : GE (Sta Γ l res) .normal N m) : GH P os Γ l0 res0 ws l res N fuel listed m := fun a w0 w ha r hm => wpAnyH_done hr (h a w ha.s r hm) fuel
/-- the region's own view of an effect -/
theorem SH.grew {a : Act} {w0 w w' : World} (h : SH Γ l0 res0 ws l res a w0 w) {r : Nat} {x : Value × Cont} (hw : ws.contains r = true) (hs : Sta Γ l ((r, some x) :: res) a w' ∧ Stay (Shr Γ.H res w) (Shr Γ.H ((r, some x) :: res) w') w w') (hg : Grew res r w w')
    (hx : ∀ b, rblk x.1 = some b → (∃ v0 c0, lr res r = some (v0, c0) ∧ rblk v0 = some b) ∨ w.heap.size ≤ b) : SH Γ l0 res0 ws l ((r, some x) :: res) a w0 w' := by
  obtain ⟨wr, h1, h2⟩ := hg
  refine ⟨h.s0, hs.1, ?_, h.st.tr hs.2, fun r2 v2 c2 b2 k1 k2 k3 => ?_⟩
  · refine Keep.gr h.cw h1 (fun b hb => ⟨Nat.lt_of_lt_of_le hb.1 h.cw.size, fun e => ?_⟩)
    obtain ⟨v0, c0, k1, k2⟩ := h2 b e
    rcases h.wsp r v0 c0 b hw k1 k2 with ⟨r1, v1, c1, k5, k3, k4⟩ | k3
    · exact hb.2 r1 v1 c1 k5 k3 k4
    · have := hb.1; omega
  · rw [lr_cons] at k2
    split at k2
    · rename_i e; subst e; cases k2
      rcases hx b2 k3 with ⟨v0, c0, q1, q2⟩ | q1
      · exact h.wsp _ v0 c0 b2 k1 q1 q2
      · exact .inr (Nat.le_trans h.cw.size q1)
    · exact h.wsp r2 v2 c2 b2 k1 k2 k3
/-- an operation that leaves a resource, where no other may come up -/
theorem hDo {r : Nat} {x : Value → Value × Cont} (i : Nat) (hi : os.toArray[i]? = some ⟨some d, op, ty, pos, after, g⟩) (hr : Region.ready .any os.toArray listed = [i]) (hg : Grd os l ⟨some d, op, ty, pos, after, g⟩ true) (hn : Nat.blt d Γ.n = true) (hl : listed.setIfInBounds i true = listed') (hw : ws.contains r = true)
    (he : Eff P Γ l res ⟨some d, op, ty, pos, after, g⟩ r x) (hx : ∀ u, (x u).1 = u) (k : ∀ u, GH P os Γ ((d, .val u) :: l0) res0 ws ((d, .val u) :: l) ((r, some (x u)) :: res) N fuel listed' m) : GH P os Γ l0 res0 ws l res N (fuel + 1) listed m := fun a w0 w ha ρ' hm => by
  obtain ⟨w', u, h1, h2, h3, h4⟩ := he a w ha.s
  refine wpAnyH_all hr (by simp) (fun j hj => ?_)
  simp only [List.mem_singleton] at hj
  subst hj
  have hgw := hg.wanted ha.s
  unfold wpOp
  simp only [hi, hgw, if_true]
  refine .inl ?_
  unfold Oper.wp; rw [h1]
  have hown : ∀ b, rblk (x u).1 = some b → (∃ v0 c0, lr res r = some (v0, c0) ∧ rblk v0 = some b) ∨ w.heap.size ≤ b := fun b hb => by
    by_cases h5 : w.heap.size ≤ b
    · exact .inr h5
    · refine .inl (Classical.byContradiction fun hno => ?_)
      -- a block that stood before, and was no part of r: then it was shared or another's, and is r's now
      have hc := h2.1.conts r _ _ (lr_cons.trans (if_pos rfl))
      by_cases hS : Shr Γ.H res w b
      · exact (h2.2 b hS).1.2.1 r _ _ (lr_cons.trans (if_pos rfl)) hb
      · have hK : ¬ Γ.K b := h2.1.own r _ _ (lr_cons.trans (if_pos rfl)) b hb
        refine hS ⟨by omega, fun r' v' c' hr' e => ?_, fun hh => hK (ha.s.hid b hh)⟩
        by_cases hrr : r = r'
        · subst hrr; exact hno ⟨v', c', hr', e⟩
        · exact h2.1.excl r _ _ r' v' c' (lr_cons.trans (if_pos rfl)) ((lr_cons.trans (if_neg hrr)).trans hr') hrr b hb e
  have hS := ha.grew hw h2 h4 hown
  refine ⟨hS.cw, ?_⟩
  rw [hl]
  exact k u _ w0 w' (hS.put hn ⟨rfl, h3⟩ ⟨rfl, h3⟩) ρ' hm
theorem hDoS {r : Nat} {x : Value × Cont} {v0 : Value} {c0 : Cont} (i : Nat) (hi : os.toArray[i]? = some ⟨none, op, ty, pos, after, g⟩) (hr : Region.ready .any os.toArray listed = [i]) (hg : Grd os l ⟨none, op, ty, pos, after, g⟩ true) (hl : listed.setIfInBounds i true = listed') (hw : ws.contains r = true) (hv : lr res r = some (v0, c0)) (hx : x.1 = v0)
    (he : EffS P Γ l res ⟨none, op, ty, pos, after, g⟩ r x) (k : GH P os Γ l0 res0 ws l ((r, some x) :: res) N fuel listed' m) : GH P os Γ l0 res0 ws l res N (fuel + 1) listed m := fun a w0 w ha ρ' hm => by
  obtain ⟨w', h1, h2, h4⟩ := he a w ha.s
  refine wpAnyH_all hr (by simp) (fun j hj => ?_)
  simp only [List.mem_singleton] at hj
  subst hj
  have hgw := hg.wanted ha.s
  unfold wpOp
  simp only [hi, hgw, if_true]
  refine .inl ?_
  unfold Oper.wp; rw [h1]
  have hS := ha.grew hw h2 h4 (fun b hb => .inl ⟨v0, c0, hv, by rw [← hx]; exact hb⟩)
  refine ⟨hS.cw, ?_⟩
  rw [hl]
  exact k a w0 w' hS ρ' hm
/-- a call, where no other may come up; e0: what is known of its result whatever the world -/
theorem hCall {σ : Type} {f : FuncId} {F : Func} {b : Code} {args : List Operand} {ats : Array TypeId} {pin : List Ent} {rin : Res} {m1 : Option σ} {q : σ → (Nat → Value) → Post} {kk : σ → Option ρ} (i : Nat) (ns : List Nat) (mp : List (Nat × Nat)) (e0 : σ → (Nat → Value) → Ent)
    (hi : os.toArray[i]? = some ⟨some d, .call ⟨.value (.func f), args.toArray, ats⟩, ty, pos, after, g⟩) (hrd : Region.ready .any os.toArray listed = [i]) (hl : listed.setIfInBounds i true = listed') (hg : Grd os l ⟨some d, .call ⟨.value (.func f), args.toArray, ats⟩, ty, pos, after, g⟩ true) (hn : Nat.blt d Γ.n = true)
    (hF : P.funcs[f]? = some F) (hB : F.body = some b) (hnm : (F.name == "runtime.NumGoroutine") = false) (hS : Spec P f pin rin m1 q) (hA : ArgsQ l args pin) (hr : SubR res rin ns) (hw : ns.all (fun n => ws.contains n) = true)
    (he0 : ∀ s nv v S w S' w', (retE (q s nv).ret).holds S w v → (e0 s nv).holds S' w' v)
    (k : ∀ s nv, GH P os Γ ((d, e0 s nv) :: l0) res0 ws ((d, retE (q s nv).ret) :: l) (aft ns mp (q s nv).res res) N fuel listed' (kk s)) :
    GH P os Γ l0 res0 ws l res N (fuel + 1) listed (m1 >>= kk) := fun a w0 w ha r hm => by
  cases hm1 : m1 with
  | none => rw [hm1] at hm; cases hm
  | some s =>
    rw [hm1] at hm
    refine wpAnyH_all hrd (by simp) (fun j hj => ?_)
    simp only [List.mem_singleton] at hj
    subst hj
    have hgw := hg.wanted ha.s
    unfold wpOp
    simp only [hi, hgw, if_true]
    refine .inl ?_
    have hrun : (execOp a.eval ⟨some d, .call ⟨.value (.func f), args.toArray, ats⟩, ty, pos, after, g⟩).run P w = .ok (.enter f (args.map a.eval).toArray) w := by
      have e0 : a.eval (.func f) = .func (.func f) #[] #[] := rfl
      simp [execOp, resolve, e0, Deferred.ofValue, invoke, run_callF hF hB hnm]
    unfold Oper.wp; rw [hrun]
    simp only [Oper.upon]
    have hH : ∀ b, (fun b => Γ.H b ∨ ∃ r v c, lr res r = some (v, c) ∧ ns.contains r = false ∧ rblk v = some b) b ↔ Γ.H b ∨ ∃ r v c, lr res r = some (v, c) ∧ ns.contains r = false ∧ rblk v = some b := fun _ => Iff.rfl
    obtain ⟨h1, h2⟩ := ResOk.of ha.s hr hH
    refine (hS s hm1 _ _ w (ArgsQ.get ha.s h2 hA) h1).mono fun e w' hR => ?_
    obtain ⟨nv, vs, rfl, hp⟩ := hR
    obtain ⟨⟨h3, h5⟩, h4, h6⟩ := ha.s.called (mp := mp) hr hH hp
    have hlent : ∀ b, Bof rin b → (∃ r0 v0 c0, ws.contains r0 = true ∧ lr res0 r0 = some (v0, c0) ∧ rblk v0 = some b) ∨ w0.heap.size ≤ b := fun b ⟨r', v, c, q1, q2⟩ => by
      obtain ⟨n, q3, q4⟩ := hr.get q1
      have hn' : ws.contains n = true := by simpa using (List.all_eq_true.1 hw) n q3
      exact ha.wsp n v c b hn' q4 q2
    have hcw : CW res0 ws w0 w' := by
      refine Keep.tr ha.cw hp.keep (fun b hb => ⟨Nat.lt_of_lt_of_le hb.1 ha.cw.size, fun hB => ?_⟩)
      rcases hlent b hB with ⟨r0, v0, c0, q1, q2, q3⟩ | q1
      · exact hb.2 r0 v0 c0 q1 q2 q3
      · have := hb.1; omega
    refine ⟨hcw, ?_⟩
    rw [hl]
    refine k s nv _ w0 w' (SH.put ⟨ha.s0, h3, hcw, ha.st.tr h5, fun r2 v2 c2 b2 k1 k2 k3 => ?_⟩ hn (he0 s nv _ _ _ _ _ h4) h4) r hm
    rcases lr_aft k2 with ⟨k', q1, q2⟩ | ⟨q1, q2⟩
    · rcases hp.own k' v2 c2 q2 b2 k3 with q3 | q3
      · exact .inr (Nat.le_trans ha.cw.size q3)
      · exact hlent b2 q3
    · exact ha.wsp r2 v2 c2 b2 k1 q2 k3
/-- something is known without an operation -/
theorem hKn {b b' : Bool} (t : Nat) (h0 : lk l0 t = some (.rd boolR b)) (hb : lk l t = some (.rd boolR b)) (e : b = b') (k : GH P os Γ ((t, .rd boolR b') :: l0) res0 ws ((t, .rd boolR b') :: l) res N fuel listed m) : GH P os Γ l0 res0 ws l res N fuel listed m := fun a w0 w ha r hr =>
  k a w0 w ⟨ha.s0.known h0 e, ha.s.known hb e, ha.cw, ha.st, ha.wsp⟩ r hr
theorem hRdNil {α : Type} (R : Rep α) (t : Nat) (h0 : lk l0 t = some (.val (.slice none 0 0))) (ht : lk l t = some (.val (.slice none 0 0))) (k : GH P os Γ ((t, .rd (sliceR R) []) :: l0) res0 ws ((t, .rd (sliceR R) []) :: l) res N fuel listed m) : GH P os Γ l0 res0 ws l res N fuel listed m := fun a w0 w ha r hr =>
  k a w0 w ⟨ha.s0.rdNil R t h0, ha.s.rdNil R t ht, ha.cw, ha.st, ha.wsp⟩ r hr
theorem hNew {α : Type} (R : Rep α) (T : TypeId) (r : Nat) (k : GH P os Γ l0 res0 ws l ((r, some (.slice none 0 0, .list R T [])) :: res) N fuel listed m) : GH P os Γ l0 res0 ws l res N fuel listed m := fun a w0 w ha r' hr => by
  have hu := ha.s.upd r (v := .slice none 0 0) (c := .list R T []) (wr := none) Ext.rfl'.gb (by simp) (by simp [rblk]) (fun S' k' => .inl ⟨rfl, rfl⟩)
  refine k a w0 w ⟨ha.s0, hu.1, ha.cw, ha.st.tr hu.2, fun r2 v2 c2 b2 h1 h2 h3 => ?_⟩ r' hr
  rw [lr_cons] at h2
  split at h2
  · cases h2; simp [rblk] at h3
  · exact ha.wsp r2 v2 c2 b2 h1 h2 h3
/-- what reads where no other may come up -/
theorem hRun {e0 e : Ent} (i : Nat) (hi : os.toArray[i]? = some ⟨some d, op, ty, pos, after, g⟩) (hr : Region.ready .any os.toArray listed = [i]) (hg : Grd os l ⟨some d, op, ty, pos, after, g⟩ true) (hn : Nat.blt d Γ.n = true) (hl : listed.setIfInBounds i true = listed')
    (h0 : ∀ S w S' w' v, e.holds S w v → e0.holds S' w' v) (he : Run Eq P Γ l res ⟨some d, op, ty, pos, after, g⟩ e) (k : GH P os Γ ((d, e0) :: l0) res0 ws ((d, e) :: l) res N fuel listed' m) : GH P os Γ l0 res0 ws l res N (fuel + 1) listed m := fun a w0 w ha ρ' hm => by
  obtain ⟨u, h1, h2⟩ := he a w ha.s
  refine wpAnyH_all hr (by simp) (fun j hj => ?_)
  simp only [List.mem_singleton] at hj
  subst hj
  have hgw := hg.wanted ha.s
  unfold wpOp
  simp only [hi, hgw, if_true]
  refine .inl ?_
  unfold Oper.wp; rw [h1 w rfl]
  refine ⟨ha.cw, ?_⟩
  rw [hl]
  exact k _ w0 w (ha.put hn (h0 _ _ _ _ _ h2) h2) ρ' hm
theorem anyJ {e : Ent} : ∀ (S : Blk) (w : World) (S' : Blk) (w' : World) (v : Value), e.holds S w v → Ent.junk.holds S' w' v := fun _ _ _ _ _ _ => trivial
/-- a new variable -/
theorem hDoB {r : Nat} {T : TypeId} {es : List Ent} (i : Nat) (hi : os.toArray[i]? = some ⟨some d, op, ty, pos, after, g⟩) (hr : Region.ready .any os.toArray listed = [i]) (hg : Grd os l ⟨some d, op, ty, pos, after, g⟩ true) (hn : Nat.blt d Γ.n = true) (hl : listed.setIfInBounds i true = listed') (hw : ws.contains r = true)
    (he : Eff P Γ l res ⟨some d, op, ty, pos, after, g⟩ r (fun v => (v, .box T es))) (k : ∀ u, GH P os Γ ((d, .val (ptrTo u 0)) :: l0) res0 ws ((d, .val (ptrTo u 0)) :: l) ((r, some (u, .box T es)) :: res) N fuel listed' m) : GH P os Γ l0 res0 ws l res N (fuel + 1) listed m :=
  hDo i hi hr hg hn hl hw he (fun _ => rfl) (fun u a w0 w ha ρ' hm => by
    have hb := base_ptr (ha.s.conts r _ _ (lr_cons.trans (if_pos rfl)))
    have := k u a w0 w
    rw [hb] at this
    exact this ha ρ' hm)
theorem hCallJ {σ : Type} {f : FuncId} {F : Func} {b : Code} {args : List Operand} {ats : Array TypeId} {pin : List Ent} {rin : Res} {m1 : Option σ} {q : σ → (Nat → Value) → Post} {kk : σ → Option ρ} (i : Nat) (ns : List Nat) (mp : List (Nat × Nat))
    (hi : os.toArray[i]? = some ⟨some d, .call ⟨.value (.func f), args.toArray, ats⟩, ty, pos, after, g⟩) (hrd : Region.ready .any os.toArray listed = [i]) (hl : listed.setIfInBounds i true = listed') (hg : Grd os l ⟨some d, .call ⟨.value (.func f), args.toArray, ats⟩, ty, pos, after, g⟩ true) (hn : Nat.blt d Γ.n = true)
    (hF : P.funcs[f]? = some F) (hB : F.body = some b) (hnm : (F.name == "runtime.NumGoroutine") = false) (hS : Spec P f pin rin m1 q) (hA : ArgsQ l args pin) (hr : SubR res rin ns) (hw : ns.all (fun n => ws.contains n) = true)
    (k : ∀ s nv, GH P os Γ ((d, .junk) :: l0) res0 ws ((d, retE (q s nv).ret) :: l) (aft ns mp (q s nv).res res) N fuel listed' (kk s)) :
    GH P os Γ l0 res0 ws l res N (fuel + 1) listed (m1 >>= kk) := hCall i ns mp (fun _ _ => .junk) hi hrd hl hg hn hF hB hnm hS hA hr hw (fun _ _ _ _ _ _ _ _ => trivial) k
theorem hCallF {σ : Type} {f : FuncId} {F : Func} {b : Code} {args : List Operand} {ats : Array TypeId} {pin : List Ent} {rin : Res} {m1 : Option σ} {q : σ → (Nat → Value) → Post} {kk : σ → Option ρ} (i : Nat) (ns : List Nat) (mp : List (Nat × Nat))
    (hi : os.toArray[i]? = some ⟨some d, .call ⟨.value (.func f), args.toArray, ats⟩, ty, pos, after, g⟩) (hrd : Region.ready .any os.toArray listed = [i]) (hl : listed.setIfInBounds i true = listed') (hg : Grd os l ⟨some d, .call ⟨.value (.func f), args.toArray, ats⟩, ty, pos, after, g⟩ true) (hn : Nat.blt d Γ.n = true)
    (hF : P.funcs[f]? = some F) (hB : F.body = some b) (hnm : (F.name == "runtime.NumGoroutine") = false) (hS : Spec P f pin rin m1 q) (hA : ArgsQ l args pin) (hr : SubR res rin ns) (hw : ns.all (fun n => ws.contains n) = true)
    (hfl : ∀ s nv, (retE (q s nv).ret).flat) (k : ∀ s nv, GH P os Γ ((d, retE (q s nv).ret) :: l0) res0 ws ((d, retE (q s nv).ret) :: l) (aft ns mp (q s nv).res res) N fuel listed' (kk s)) :
    GH P os Γ l0 res0 ws l res N (fuel + 1) listed (m1 >>= kk) := hCall i ns mp (fun s nv => retE (q s nv).ret) hi hrd hl hg hn hF hB hnm hS hA hr hw (fun s nv v S w S' w' h => hfl s nv S w S' w' v h) k
end
end Go.Proofs.Ytklfgpdfongaeaa
