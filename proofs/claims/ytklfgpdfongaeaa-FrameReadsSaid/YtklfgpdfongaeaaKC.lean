/- Regions that draw their order, where several operations may come up: whichever comes up. Over any program. Printed by mkkc.py. -/
import Derived.Test.YtklfgpdfongaeaaKB
namespace Go.Proofs.Ytklfgpdfongaeaa
open Go Go.RowKit
set_option linter.unusedSimpArgs false
set_option linter.unusedVariables false
section
variable {ρ : Type} {P : Program} {Γ : Ctx} {l l0 : Slots} {res res0 : Res} {ws : List Nat} {m m1 m2 : Option ρ} {os : List Oper} {N : ρ → Exit → Act → World → Prop}
  {d : Tmp} {op : Op} {ty : TypeId} {pos : String} {after : Array Edge} {g : Option (Nat × Bool)} {fuel i : Nat} {listed listed' : Array Bool} {rest : List Oper}
/-- operation i comes up -/
def GO (P : Program) (os : List Oper) (Γ : Ctx) (l0 : Slots) (res0 : Res) (ws : List Nat) (l : Slots) (res : Res) (N : ρ → Exit → Act → World → Prop) (fuel : Nat) (listed : Array Bool) (i : Nat) (m : Option ρ) : Prop :=
  ∀ a w0 w, SH Γ l0 res0 ws l res a w0 w → ∀ r, m = some r → wpOp P os.toArray (N r) i (fun a' w' => CW res0 ws w0 w' ∧ wpAnyH P .any os.toArray (N r) (CW res0 ws w0) fuel (listed.setIfInBounds i true) a' w') a w
def AllP {α : Type} (p : α → Prop) : List α → Prop
  | [] => True
  | x :: l => p x ∧ AllP p l
theorem AllP.mem {α : Type} {p : α → Prop} : ∀ {l : List α}, AllP p l → ∀ x ∈ l, p x
  | [], _, x, h => by simp at h
  | y :: l, h, x, hx => by
    rcases List.mem_cons.1 hx with rfl | hx
    · exact h.1
    · exact AllP.mem h.2 x hx
theorem hAlt (is : List Nat) (hr : Region.ready .any os.toArray listed = is) (hne : is.isEmpty = false) (h : AllP (fun i => GO P os Γ l0 res0 ws l res N fuel listed i m) is) : GH P os Γ l0 res0 ws l res N (fuel + 1) listed m := fun a w0 w ha r hm =>
  wpAnyH_all hr (by intro e; rw [e] at hne; cases hne) (fun i hi => h.mem i hi a w0 w ha r hm)
theorem oDo {r : Nat} {x : Value → Value × Cont} (i : Nat) (hi : os.toArray[i]? = some ⟨some d, op, ty, pos, after, g⟩) (hg : Grd os l ⟨some d, op, ty, pos, after, g⟩ true) (hn : Nat.blt d Γ.n = true) (hl : listed.setIfInBounds i true = listed') (hw : ws.contains r = true)
    (he : Eff P Γ l res ⟨some d, op, ty, pos, after, g⟩ r x) (hx : ∀ u, (x u).1 = u) (k : ∀ u, GH P os Γ ((d, .val u) :: l0) res0 ws ((d, .val u) :: l) ((r, some (x u)) :: res) N fuel listed' m) : GO P os Γ l0 res0 ws l res N fuel listed i m := fun a w0 w ha ρ' hm => by
  obtain ⟨w', u, h1, h2, h3, h4⟩ := he a w ha.s
  have hgw := hg.wanted ha.s
  unfold wpOp
  simp only [hi, hgw, if_true]
  refine .inl ?_
  unfold Oper.wp; rw [h1]
  have hown : ∀ b, rblk (x u).1 = some b → (∃ v0 c0, lr res r = some (v0, c0) ∧ rblk v0 = some b) ∨ w.heap.size ≤ b := fun b hb => by
    by_cases h5 : w.heap.size ≤ b
    · exact .inr h5
    · refine .inl (Classical.byContradiction fun hno => ?_)
      -- a block that stood before, and was no part of r: then it was shared or another's, and is r's now
      have hc := h2.1.conts r _ _ (lr_cons.trans (if_pos rfl))
      by_cases hS : Shr Γ.H res w b
      · exact (h2.2 b hS).1.2.1 r _ _ (lr_cons.trans (if_pos rfl)) hb
      · have hK : ¬ Γ.K b := h2.1.own r _ _ (lr_cons.trans (if_pos rfl)) b hb
        refine hS ⟨by omega, fun r' v' c' hr' e => ?_, fun hh => hK (ha.s.hid b hh)⟩
        by_cases hrr : r = r'
        · subst hrr; exact hno ⟨v', c', hr', e⟩
        · exact h2.1.excl r _ _ r' v' c' (lr_cons.trans (if_pos rfl)) ((lr_cons.trans (if_neg hrr)).trans hr') hrr b hb e
  have hS := ha.grew hw h2 h4 hown
  refine ⟨hS.cw, ?_⟩
  rw [hl]
  exact k u _ w0 w' (hS.put hn ⟨rfl, h3⟩ ⟨rfl, h3⟩) ρ' hm
theorem oDoS {r : Nat} {x : Value × Cont} {v0 : Value} {c0 : Cont} (i : Nat) (hi : os.toArray[i]? = some ⟨none, op, ty, pos, after, g⟩) (hg : Grd os l ⟨none, op, ty, pos, after, g⟩ true) (hl : listed.setIfInBounds i true = listed') (hw : ws.contains r = true) (hv : lr res r = some (v0, c0)) (hx : x.1 = v0)
    (he : EffS P Γ l res ⟨none, op, ty, pos, after, g⟩ r x) (k : GH P os Γ l0 res0 ws l ((r, some x) :: res) N fuel listed' m) : GO P os Γ l0 res0 ws l res N fuel listed i m := fun a w0 w ha ρ' hm => by
  obtain ⟨w', h1, h2, h4⟩ := he a w ha.s
  have hgw := hg.wanted ha.s
  unfold wpOp
  simp only [hi, hgw, if_true]
  refine .inl ?_
  unfold Oper.wp; rw [h1]
  have hS := ha.grew hw h2 h4 (fun b hb => .inl ⟨v0, c0, hv, by rw [← hx]; exact hb⟩)
  refine ⟨hS.cw, ?_⟩
  rw [hl]
  exact k a w0 w' hS ρ' hm
theorem oCall {σ : Type} {f : FuncId} {F : Func} {b : Code} {args : List Operand} {ats : Array TypeId} {pin : List Ent} {rin : Res} {m1 : Option σ} {q : σ → (Nat → Value) → Post} {kk : σ → Option ρ} (i : Nat) (ns : List Nat) (mp : List (Nat × Nat)) (e0 : σ → (Nat → Value) → Ent)
    (hi : os.toArray[i]? = some ⟨some d, .call ⟨.value (.func f), args.toArray, ats⟩, ty, pos, after, g⟩) (hl : listed.setIfInBounds i true = listed') (hg : Grd os l ⟨some d, .call ⟨.value (.func f), args.toArray, ats⟩, ty, pos, after, g⟩ true) (hn : Nat.blt d Γ.n = true)
    (hF : P.funcs[f]? = some F) (hB : F.body = some b) (hnm : (F.name == "runtime.NumGoroutine") = false) (hS : Spec P f pin rin m1 q) (hA : ArgsQ l args pin) (hr : SubR res rin ns) (hw : ns.all (fun n => ws.contains n) = true)
    (he0 : ∀ s nv v S w S' w', (retE (q s nv).ret).holds S w v → (e0 s nv).holds S' w' v)
    (k : ∀ s nv, GH P os Γ ((d, e0 s nv) :: l0) res0 ws ((d, retE (q s nv).ret) :: l) (aft ns mp (q s nv).res res) N fuel listed' (kk s)) :
    GO P os Γ l0 res0 ws l res N fuel listed i (m1 >>= kk) := fun a w0 w ha r hm => by
  cases hm1 : m1 with
  | none => rw [hm1] at hm; cases hm
  | some s =>
    rw [hm1] at hm
    have hgw := hg.wanted ha.s
    unfold wpOp
    simp only [hi, hgw, if_true]
    refine .inl ?_
    have hrun : (execOp a.eval ⟨some d, .call ⟨.value (.func f), args.toArray, ats⟩, ty, pos, after, g⟩).run P w = .ok (.enter f (args.map a.eval).toArray) w := by
      have e0 : a.eval (.func f) = .func (.func f) #[] #[] := rfl
      simp [execOp, resolve, e0, Deferred.ofValue, invoke, run_callF hF hB hnm]
    unfold Oper.wp; rw [hrun]
    simp only [Oper.upon]
    have hH : ∀ b, (fun b => Γ.H b ∨ ∃ r v c, lr res r = some (v, c) ∧ ns.contains r = false ∧ rblk v = some b) b ↔ Γ.H b ∨ ∃ r v c, lr res r = some (v, c) ∧ ns.contains r = false ∧ rblk v = some b := fun _ => Iff.rfl
    obtain ⟨h1, h2⟩ := ResOk.of ha.s hr hH
    refine (hS s hm1 _ _ w (ArgsQ.get ha.s h2 hA) h1).mono fun e w' hR => ?_
    obtain ⟨nv, vs, rfl, hp⟩ := hR
    obtain ⟨⟨h3, h5⟩, h4, h6⟩ := ha.s.called (mp := mp) hr hH hp
    have hlent : ∀ b, Bof rin b → (∃ r0 v0 c0, ws.contains r0 = true ∧ lr res0 r0 = some (v0, c0) ∧ rblk v0 = some b) ∨ w0.heap.size ≤ b := fun b ⟨r', v, c, q1, q2⟩ => by
      obtain ⟨n, q3, q4⟩ := hr.get q1
      have hn' : ws.contains n = true := by simpa using (List.all_eq_true.1 hw) n q3
      exact ha.wsp n v c b hn' q4 q2
    have hcw : CW res0 ws w0 w' := by
      refine Keep.tr ha.cw hp.keep (fun b hb => ⟨Nat.lt_of_lt_of_le hb.1 ha.cw.size, fun hB => ?_⟩)
      rcases hlent b hB with ⟨r0, v0, c0, q1, q2, q3⟩ | q1
      · exact hb.2 r0 v0 c0 q1 q2 q3
      · have := hb.1; omega
    refine ⟨hcw, ?_⟩
    rw [hl]
    refine k s nv _ w0 w' (SH.put ⟨ha.s0, h3, hcw, ha.st.tr h5, fun r2 v2 c2 b2 k1 k2 k3 => ?_⟩ hn (he0 s nv _ _ _ _ _ h4) h4) r hm
    rcases lr_aft k2 with ⟨k', q1, q2⟩ | ⟨q1, q2⟩
    · rcases hp.own k' v2 c2 q2 b2 k3 with q3 | q3
      · exact .inr (Nat.le_trans ha.cw.size q3)
      · exact hlent b2 q3
    · exact ha.wsp r2 v2 c2 b2 k1 q2 k3
theorem oRun {e0 e : Ent} (i : Nat) (hi : os.toArray[i]? = some ⟨some d, op, ty, pos, after, g⟩) (hg : Grd os l ⟨some d, op, ty, pos, after, g⟩ true) (hn : Nat.blt d Γ.n = true) (hl : listed.setIfInBounds i true = listed')
    (h0 : ∀ S w S' w' v, e.holds S w v → e0.holds S' w' v) (he : Run Eq P Γ l res ⟨some d, op, ty, pos, after, g⟩ e) (k : GH P os Γ ((d, e0) :: l0) res0 ws ((d, e) :: l) res N fuel listed' m) : GO P os Γ l0 res0 ws l res N fuel listed i m := fun a w0 w ha ρ' hm => by
  obtain ⟨u, h1, h2⟩ := he a w ha.s
  have hgw := hg.wanted ha.s
  unfold wpOp
  simp only [hi, hgw, if_true]
  refine .inl ?_
  unfold Oper.wp; rw [h1 w rfl]
  refine ⟨ha.cw, ?_⟩
  rw [hl]
  exact k _ w0 w (ha.put hn (h0 _ _ _ _ _ h2) h2) ρ' hm
theorem oDoB {r : Nat} {T : TypeId} {es : List Ent} (i : Nat) (hi : os.toArray[i]? = some ⟨some d, op, ty, pos, after, g⟩) (hg : Grd os l ⟨some d, op, ty, pos, after, g⟩ true) (hn : Nat.blt d Γ.n = true) (hl : listed.setIfInBounds i true = listed') (hw : ws.contains r = true)
    (he : Eff P Γ l res ⟨some d, op, ty, pos, after, g⟩ r (fun v => (v, .box T es))) (k : ∀ u, GH P os Γ ((d, .val (ptrTo u 0)) :: l0) res0 ws ((d, .val (ptrTo u 0)) :: l) ((r, some (u, .box T es)) :: res) N fuel listed' m) : GO P os Γ l0 res0 ws l res N fuel listed i m :=
  oDo i hi hg hn hl hw he (fun _ => rfl) (fun u a w0 w ha ρ' hm => by
    have hb := base_ptr (ha.s.conts r _ _ (lr_cons.trans (if_pos rfl)))
    have := k u a w0 w
    rw [hb] at this
    exact this ha ρ' hm)
theorem oCallJ {σ : Type} {f : FuncId} {F : Func} {b : Code} {args : List Operand} {ats : Array TypeId} {pin : List Ent} {rin : Res} {m1 : Option σ} {q : σ → (Nat → Value) → Post} {kk : σ → Option ρ} (i : Nat) (ns : List Nat) (mp : List (Nat × Nat))
    (hi : os.toArray[i]? = some ⟨some d, .call ⟨.value (.func f), args.toArray, ats⟩, ty, pos, after, g⟩) (hl : listed.setIfInBounds i true = listed') (hg : Grd os l ⟨some d, .call ⟨.value (.func f), args.toArray, ats⟩, ty, pos, after, g⟩ true) (hn : Nat.blt d Γ.n = true)
    (hF : P.funcs[f]? = some F) (hB : F.body = some b) (hnm : (F.name == "runtime.NumGoroutine") = false) (hS : Spec P f pin rin m1 q) (hA : ArgsQ l args pin) (hr : SubR res rin ns) (hw : ns.all (fun n => ws.contains n) = true)
    (k : ∀ s nv, GH P os Γ ((d, .junk) :: l0) res0 ws ((d, retE (q s nv).ret) :: l) (aft ns mp (q s nv).res res) N fuel listed' (kk s)) :
    GO P os Γ l0 res0 ws l res N fuel listed i (m1 >>= kk) := oCall i ns mp (fun _ _ => .junk) hi hl hg hn hF hB hnm hS hA hr hw (fun _ _ _ _ _ _ _ _ => trivial) k
theorem oCallF {σ : Type} {f : FuncId} {F : Func} {b : Code} {args : List Operand} {ats : Array TypeId} {pin : List Ent} {rin : Res} {m1 : Option σ} {q : σ → (Nat → Value) → Post} {kk : σ → Option ρ} (i : Nat) (ns : List Nat) (mp : List (Nat × Nat))
    (hi : os.toArray[i]? = some ⟨some d, .call ⟨.value (.func f), args.toArray, ats⟩, ty, pos, after, g⟩) (hl : listed.setIfInBounds i true = listed') (hg : Grd os l ⟨some d, .call ⟨.value (.func f), args.toArray, ats⟩, ty, pos, after, g⟩ true) (hn : Nat.blt d Γ.n = true)
    (hF : P.funcs[f]? = some F) (hB : F.body = some b) (hnm : (F.name == "runtime.NumGoroutine") = false) (hS : Spec P f pin rin m1 q) (hA : ArgsQ l args pin) (hr : SubR res rin ns) (hw : ns.all (fun n => ws.contains n) = true)
    (hfl : ∀ s nv, (retE (q s nv).ret).flat) (k : ∀ s nv, GH P os Γ ((d, retE (q s nv).ret) :: l0) res0 ws ((d, retE (q s nv).ret) :: l) (aft ns mp (q s nv).res res) N fuel listed' (kk s)) :
    GO P os Γ l0 res0 ws l res N fuel listed i (m1 >>= kk) := oCall i ns mp (fun s nv => retE (q s nv).ret) hi hl hg hn hF hB hnm hS hA hr hw (fun s nv v S w S' w' h => hfl s nv S w S' w' v h) k
theorem oBind {i : Nat} {σ : Type} {m : Option σ} {k : σ → Option ρ} (h : ∀ s, m = some s → GO P os Γ l0 res0 ws l res N fuel listed i (k s)) : GO P os Γ l0 res0 ws l res N fuel listed i (m >>= k) := fun a w0 w ha r hr => by
  cases hm : m with
  | none => rw [hm] at hr; cases hr
  | some s => rw [hm] at hr; exact h s hm a w0 w ha r hr
theorem oNew {i : Nat} {α : Type} (R : Rep α) (T : TypeId) (r : Nat) (k : GO P os Γ l0 res0 ws l ((r, some (.slice none 0 0, .list R T [])) :: res) N fuel listed i m) : GO P os Γ l0 res0 ws l res N fuel listed i m := fun a w0 w ha r' hr => by
  have hu := ha.s.upd r (v := .slice none 0 0) (c := .list R T []) (wr := none) Ext.rfl'.gb (by simp) (by simp [rblk]) (fun S' k' => .inl ⟨rfl, rfl⟩)
  refine k a w0 w ⟨ha.s0, hu.1, ha.cw, ha.st.tr hu.2, fun r2 v2 c2 b2 h1 h2 h3 => ?_⟩ r' hr
  rw [lr_cons] at h2
  split at h2
  · cases h2; simp [rblk] at h3
  · exact ha.wsp r2 v2 c2 b2 h1 h2 h3
theorem oFrz {i : Nat} {α : Type} {R : Rep α} {T : TypeId} {b : List α} {v : Value} (r : Nat) (ts : List Nat) (hr : lr res r = some (v, .list R T b)) (ht : FrL l v ts) (k : GO P os Γ (ts.map (fun t => (t, .junk)) ++ l0) res0 ws (ts.map (fun t => (t, .rd (sliceR R) b)) ++ l) ((r, none) :: res) N fuel listed i m) : GO P os Γ l0 res0 ws l res N fuel listed i m := fun a w0 w ha r' hr' => by
  refine k a w0 w ⟨?_, ha.s.frz r ts hr ht, ha.cw, fun bb hb => ⟨?_, (ha.st bb hb).2⟩, fun r2 v2 c2 b2 h1 h2 => ?_⟩ r' hr'
  · refine { ha.s0 with slots := fun t' e' ht' => ?_ }
    rw [lk_put] at ht'
    split at ht'
    · rename_i hh; cases ht'
      obtain ⟨u, h1, _⟩ := ha.s.slots t' _ (ht.get hh)
      exact ⟨u, h1, trivial⟩
    · exact ha.s0.slots t' e' ht'
  · have h1 := (ha.st bb hb).1
    refine ⟨h1.1, fun r2 v2 c2 h2 => ?_, h1.2.2⟩
    rw [lr_cons] at h2
    split at h2
    · cases h2
    · exact h1.2.1 r2 v2 c2 h2
  · rw [lr_cons] at h2
    split at h2
    · cases h2
    · exact ha.wsp r2 v2 c2 b2 h1 h2
theorem oRdNil {i : Nat} {α : Type} (R : Rep α) (t : Nat) (h0 : lk l0 t = some (.val (.slice none 0 0))) (ht : lk l t = some (.val (.slice none 0 0))) (k : GO P os Γ ((t, .rd (sliceR R) []) :: l0) res0 ws ((t, .rd (sliceR R) []) :: l) res N fuel listed i m) : GO P os Γ l0 res0 ws l res N fuel listed i m := fun a w0 w ha r hr =>
  k a w0 w ⟨ha.s0.rdNil R t h0, ha.s.rdNil R t ht, ha.cw, ha.st, ha.wsp⟩ r hr
end
end Go.Proofs.Ytklfgpdfongaeaa
