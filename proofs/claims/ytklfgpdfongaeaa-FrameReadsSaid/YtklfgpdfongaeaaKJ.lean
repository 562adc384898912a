/- Package variables that are only read; closures called in regions that draw. Over any program. Printed by mkkj.py. -/
import Derived.Test.YtklfgpdfongaeaaKI
namespace Go.Proofs.Ytklfgpdfongaeaa
open Go Go.RowKit
set_option linter.unusedSimpArgs false
set_option linter.unusedVariables false
/-- package variable g holds x, and nobody writes it: no block of the call's own -/
def Cont.glob {α : Type} (g : Nat) (R : Rep α) (x : α) : Cont where
  nil S w v := v = .bool true ∧ (Ent.rp R x).holds S w (.pointer (some ⟨g, 0, none⟩))
  nilm k h := ⟨h.1, (Ent.rp R x).mono k h.2⟩
  nilb h := by rw [h.1]; rfl
  rel _ _ _ _ := False
  mono _ h := h
section
variable {C : World → World → Prop} {P : Program} {Γ : Ctx} {l : Slots} {res : Res} {d : Tmp} {ty : TypeId} {pos : String} {after : Array Edge} {g : Option (Nat × Bool)}
theorem glob_rp {α : Type} {gl : Nat} {R : Rep α} {x : α} {v : Value} {a : Act} {w : World} (ha : Sta Γ l res a w) (r : Nat) (hr : lr res r = some (v, .glob gl R x)) : (Ent.rp R x).holds (Shr Γ.H res w) w (.pointer (some ⟨gl, 0, none⟩)) := by
  rcases ha.conts r v _ hr with h | ⟨b, o, _, _, h⟩
  · exact h.2
  · exact h.elim
theorem ixG {α β : Type} {n : Nat} {R : Rep α} {b : Vector α n} {y : α} {k : IntKind} {f : β → Int} {j : β} {z' : Operand} {T e : TypeId} {z v : Value} {by_ gl : Nat} (r : Nat) (hr : lr res r = some (v, .glob gl (arrR n R) b)) (hj : opE l z' = some (.rd (numR k f) j)) (hy : vidx b (f j) = some y) (hT : P.underlying T = some (.array n e)) (hE : TI P e z R.sz by_) :
    Run C P Γ l res ⟨some d, .indexAddr T (.global gl) z', ty, pos, after, g⟩ (.rp R y) := fun a w ha => by
  obtain ⟨b', o, h1, h2⟩ := (Part.el hy).ptr (glob_rp ha r hr)
  obtain ⟨k1, k3⟩ := vidx_lt hy
  have hj' : a.eval z' = .int k ((f j).toNat : Int) := by rw [rd_num (ha.vl hj)]; congr 1; omega
  have hx : a.eval (.global gl) = .pointer (some ⟨gl, 0, none⟩) := rfl
  exact ⟨_, fun w' _ => q0_indexAddrA hT hE (hx.trans h1) hj' rfl k3 rfl, h2⟩
end
/-- where the code panics nothing is to be shown -/
theorem gVoid {ρ : Type} {P : Program} {A : Asn} {c : Code} {Q : ρ → Exit → Act → World → Prop} : G P A c Q none := fun a w ha r hr => by cases hr
section
variable {ρ : Type} {P : Program} {Γ : Ctx} {l l0 : Slots} {res res0 : Res} {ws : List Nat} {m m1 m2 : Option ρ} {os : List Oper} {N : ρ → Exit → Act → World → Prop}
  {d : Tmp} {op : Op} {ty : TypeId} {pos : String} {after : Array Edge} {g : Option (Nat × Bool)} {fuel i : Nat} {listed listed' : Array Bool} {rest : List Oper}
theorem hCallV {σ : Type} {f : FuncId} {F : Func} {b : Code} {args : List Operand} {ats : Array TypeId} {x : Operand} {cap : List Value} {pin pa pc : List Ent} {rin : Res} {m1 : Option σ} {q : σ → (Nat → Value) → Post} {kk : σ → Option ρ} (i : Nat) (ns : List Nat) (mp : List (Nat × Nat)) (e0 : σ → (Nat → Value) → Ent)
    (hi : os.toArray[i]? = some ⟨some d, .call ⟨.value x, args.toArray, ats⟩, ty, pos, after, g⟩) (hrd : Region.ready .any os.toArray listed = [i]) (hl : listed.setIfInBounds i true = listed') (hg : Grd os l ⟨some d, .call ⟨.value x, args.toArray, ats⟩, ty, pos, after, g⟩ true) (hn : Nat.blt d Γ.n = true)
    (hF : P.funcs[f]? = some F) (hB : F.body = some b) (hnm : (F.name == "runtime.NumGoroutine") = false) (hx : opE l x = some (.val (.func (.func f) #[] cap.toArray))) (hS : Spec P f pin rin m1 q) (hA : ArgsQ l args pa) (hC : CapQ res cap pc) (hpp : pin = pa ++ pc) (hr : SubR res rin ns) (hw : ns.all (fun n => ws.contains n) = true)
    (he0 : ∀ s nv v S w S' w', (retE (q s nv).ret).holds S w v → (e0 s nv).holds S' w' v)
    (k : ∀ s nv, GH P os Γ ((d, e0 s nv) :: l0) res0 ws ((d, retE (q s nv).ret) :: l) (aft ns mp (q s nv).res res) N fuel listed' (kk s)) :
    GH P os Γ l0 res0 ws l res N (fuel + 1) listed (m1 >>= kk) := fun a w0 w ha r hm => by
  subst hpp
  cases hm1 : m1 with
  | none => rw [hm1] at hm; cases hm
  | some s =>
    rw [hm1] at hm
    refine wpAnyH_all hrd (by simp) (fun j hj => ?_)
    simp only [List.mem_singleton] at hj
    subst hj
    have hgw := hg.wanted ha.s
    unfold wpOp
    simp only [hi, hgw, if_true]
    refine .inl ?_
    have hrun : (execOp a.eval ⟨some d, .call ⟨.value x, args.toArray, ats⟩, ty, pos, after, g⟩).run P w = .ok (.enter f (args.map a.eval ++ cap).toArray) w := by
      simp [execOp, resolve, (ha.s.vl hx).1, Deferred.ofValue, invoke, run_callF hF hB hnm, ← Array.append_assoc]
    unfold Oper.wp; rw [hrun]
    simp only [Oper.upon]
    have hH : ∀ b, (fun b => Γ.H b ∨ ∃ r v c, lr res r = some (v, c) ∧ ns.contains r = false ∧ rblk v = some b) b ↔ Γ.H b ∨ ∃ r v c, lr res r = some (v, c) ∧ ns.contains r = false ∧ rblk v = some b := fun _ => Iff.rfl
    obtain ⟨h1, h2⟩ := ResOk.of ha.s hr hH
    refine (hS s hm1 _ _ w ((ArgsQ.get ha.s h2 hA).mk (CapQ.get ha.s hC)) h1).mono fun e w' hR => ?_
    obtain ⟨nv, vs, rfl, hp⟩ := hR
    obtain ⟨⟨h3, h5⟩, h4, h6⟩ := ha.s.called (mp := mp) hr hH hp
    have hlent : ∀ b, Bof rin b → (∃ r0 v0 c0, ws.contains r0 = true ∧ lr res0 r0 = some (v0, c0) ∧ rblk v0 = some b) ∨ w0.heap.size ≤ b := fun b ⟨r', v, c, q1, q2⟩ => by
      obtain ⟨n, q3, q4⟩ := hr.get q1
      have hn' : ws.contains n = true := by simpa using (List.all_eq_true.1 hw) n q3
      exact ha.wsp n v c b hn' q4 q2
    have hcw : CW res0 ws w0 w' := by
      refine Keep.tr ha.cw hp.keep (fun b hb => ⟨Nat.lt_of_lt_of_le hb.1 ha.cw.size, fun hB => ?_⟩)
      rcases hlent b hB with ⟨r0, v0, c0, q1, q2, q3⟩ | q1
      · exact hb.2 r0 v0 c0 q1 q2 q3
      · have := hb.1; omega
    refine ⟨hcw, ?_⟩
    rw [hl]
    refine k s nv _ w0 w' (SH.put ⟨ha.s0, h3, hcw, ha.st.tr h5, fun r2 v2 c2 b2 k1 k2 k3 => ?_⟩ hn (he0 s nv _ _ _ _ _ h4) h4) r hm
    rcases lr_aft k2 with ⟨k', q1, q2⟩ | ⟨q1, q2⟩
    · rcases hp.own k' v2 c2 q2 b2 k3 with q3 | q3
      · exact .inr (Nat.le_trans ha.cw.size q3)
      · exact hlent b2 q3
    · exact ha.wsp r2 v2 c2 b2 k1 q2 k3
theorem hCallVJ {σ : Type} {f : FuncId} {F : Func} {b : Code} {args : List Operand} {ats : Array TypeId} {x : Operand} {cap : List Value} {pin pa pc : List Ent} {rin : Res} {m1 : Option σ} {q : σ → (Nat → Value) → Post} {kk : σ → Option ρ} (i : Nat) (ns : List Nat) (mp : List (Nat × Nat))
    (hi : os.toArray[i]? = some ⟨some d, .call ⟨.value x, args.toArray, ats⟩, ty, pos, after, g⟩) (hrd : Region.ready .any os.toArray listed = [i]) (hl : listed.setIfInBounds i true = listed') (hg : Grd os l ⟨some d, .call ⟨.value x, args.toArray, ats⟩, ty, pos, after, g⟩ true) (hn : Nat.blt d Γ.n = true)
    (hF : P.funcs[f]? = some F) (hB : F.body = some b) (hnm : (F.name == "runtime.NumGoroutine") = false) (hx : opE l x = some (.val (.func (.func f) #[] cap.toArray))) (hS : Spec P f pin rin m1 q) (hA : ArgsQ l args pa) (hC : CapQ res cap pc) (hpp : pin = pa ++ pc) (hr : SubR res rin ns) (hw : ns.all (fun n => ws.contains n) = true)
    (k : ∀ s nv, GH P os Γ ((d, .junk) :: l0) res0 ws ((d, retE (q s nv).ret) :: l) (aft ns mp (q s nv).res res) N fuel listed' (kk s)) :
    GH P os Γ l0 res0 ws l res N (fuel + 1) listed (m1 >>= kk) := hCallV i ns mp (fun _ _ => .junk) hi hrd hl hg hn hF hB hnm hx hS hA hC hpp hr hw (fun _ _ _ _ _ _ _ _ => trivial) k
theorem hCallVF {σ : Type} {f : FuncId} {F : Func} {b : Code} {args : List Operand} {ats : Array TypeId} {x : Operand} {cap : List Value} {pin pa pc : List Ent} {rin : Res} {m1 : Option σ} {q : σ → (Nat → Value) → Post} {kk : σ → Option ρ} (i : Nat) (ns : List Nat) (mp : List (Nat × Nat))
    (hi : os.toArray[i]? = some ⟨some d, .call ⟨.value x, args.toArray, ats⟩, ty, pos, after, g⟩) (hrd : Region.ready .any os.toArray listed = [i]) (hl : listed.setIfInBounds i true = listed') (hg : Grd os l ⟨some d, .call ⟨.value x, args.toArray, ats⟩, ty, pos, after, g⟩ true) (hn : Nat.blt d Γ.n = true)
    (hF : P.funcs[f]? = some F) (hB : F.body = some b) (hnm : (F.name == "runtime.NumGoroutine") = false) (hx : opE l x = some (.val (.func (.func f) #[] cap.toArray))) (hS : Spec P f pin rin m1 q) (hA : ArgsQ l args pa) (hC : CapQ res cap pc) (hpp : pin = pa ++ pc) (hr : SubR res rin ns) (hw : ns.all (fun n => ws.contains n) = true)
    (hfl : ∀ s nv, (retE (q s nv).ret).flat) (k : ∀ s nv, GH P os Γ ((d, retE (q s nv).ret) :: l0) res0 ws ((d, retE (q s nv).ret) :: l) (aft ns mp (q s nv).res res) N fuel listed' (kk s)) :
    GH P os Γ l0 res0 ws l res N (fuel + 1) listed (m1 >>= kk) := hCallV i ns mp (fun s nv => retE (q s nv).ret) hi hrd hl hg hn hF hB hnm hx hS hA hC hpp hr hw (fun s nv v S w S' w' h => hfl s nv S w S' w' v h) k
theorem oCallV {σ : Type} {f : FuncId} {F : Func} {b : Code} {args : List Operand} {ats : Array TypeId} {x : Operand} {cap : List Value} {pin pa pc : List Ent} {rin : Res} {m1 : Option σ} {q : σ → (Nat → Value) → Post} {kk : σ → Option ρ} (i : Nat) (ns : List Nat) (mp : List (Nat × Nat)) (e0 : σ → (Nat → Value) → Ent)
    (hi : os.toArray[i]? = some ⟨some d, .call ⟨.value x, args.toArray, ats⟩, ty, pos, after, g⟩) (hl : listed.setIfInBounds i true = listed') (hg : Grd os l ⟨some d, .call ⟨.value x, args.toArray, ats⟩, ty, pos, after, g⟩ true) (hn : Nat.blt d Γ.n = true)
    (hF : P.funcs[f]? = some F) (hB : F.body = some b) (hnm : (F.name == "runtime.NumGoroutine") = false) (hx : opE l x = some (.val (.func (.func f) #[] cap.toArray))) (hS : Spec P f pin rin m1 q) (hA : ArgsQ l args pa) (hC : CapQ res cap pc) (hpp : pin = pa ++ pc) (hr : SubR res rin ns) (hw : ns.all (fun n => ws.contains n) = true)
    (he0 : ∀ s nv v S w S' w', (retE (q s nv).ret).holds S w v → (e0 s nv).holds S' w' v)
    (k : ∀ s nv, GH P os Γ ((d, e0 s nv) :: l0) res0 ws ((d, retE (q s nv).ret) :: l) (aft ns mp (q s nv).res res) N fuel listed' (kk s)) :
    GO P os Γ l0 res0 ws l res N fuel listed i (m1 >>= kk) := fun a w0 w ha r hm => by
  subst hpp
  cases hm1 : m1 with
  | none => rw [hm1] at hm; cases hm
  | some s =>
    rw [hm1] at hm
    have hgw := hg.wanted ha.s
    unfold wpOp
    simp only [hi, hgw, if_true]
    refine .inl ?_
    have hrun : (execOp a.eval ⟨some d, .call ⟨.value x, args.toArray, ats⟩, ty, pos, after, g⟩).run P w = .ok (.enter f (args.map a.eval ++ cap).toArray) w := by
      simp [execOp, resolve, (ha.s.vl hx).1, Deferred.ofValue, invoke, run_callF hF hB hnm, ← Array.append_assoc]
    unfold Oper.wp; rw [hrun]
    simp only [Oper.upon]
    have hH : ∀ b, (fun b => Γ.H b ∨ ∃ r v c, lr res r = some (v, c) ∧ ns.contains r = false ∧ rblk v = some b) b ↔ Γ.H b ∨ ∃ r v c, lr res r = some (v, c) ∧ ns.contains r = false ∧ rblk v = some b := fun _ => Iff.rfl
    obtain ⟨h1, h2⟩ := ResOk.of ha.s hr hH
    refine (hS s hm1 _ _ w ((ArgsQ.get ha.s h2 hA).mk (CapQ.get ha.s hC)) h1).mono fun e w' hR => ?_
    obtain ⟨nv, vs, rfl, hp⟩ := hR
    obtain ⟨⟨h3, h5⟩, h4, h6⟩ := ha.s.called (mp := mp) hr hH hp
    have hlent : ∀ b, Bof rin b → (∃ r0 v0 c0, ws.contains r0 = true ∧ lr res0 r0 = some (v0, c0) ∧ rblk v0 = some b) ∨ w0.heap.size ≤ b := fun b ⟨r', v, c, q1, q2⟩ => by
      obtain ⟨n, q3, q4⟩ := hr.get q1
      have hn' : ws.contains n = true := by simpa using (List.all_eq_true.1 hw) n q3
      exact ha.wsp n v c b hn' q4 q2
    have hcw : CW res0 ws w0 w' := by
      refine Keep.tr ha.cw hp.keep (fun b hb => ⟨Nat.lt_of_lt_of_le hb.1 ha.cw.size, fun hB => ?_⟩)
      rcases hlent b hB with ⟨r0, v0, c0, q1, q2, q3⟩ | q1
      · exact hb.2 r0 v0 c0 q1 q2 q3
      · have := hb.1; omega
    refine ⟨hcw, ?_⟩
    rw [hl]
    refine k s nv _ w0 w' (SH.put ⟨ha.s0, h3, hcw, ha.st.tr h5, fun r2 v2 c2 b2 k1 k2 k3 => ?_⟩ hn (he0 s nv _ _ _ _ _ h4) h4) r hm
    rcases lr_aft k2 with ⟨k', q1, q2⟩ | ⟨q1, q2⟩
    · rcases hp.own k' v2 c2 q2 b2 k3 with q3 | q3
      · exact .inr (Nat.le_trans ha.cw.size q3)
      · exact hlent b2 q3
    · exact ha.wsp r2 v2 c2 b2 k1 q2 k3
theorem oCallVJ {σ : Type} {f : FuncId} {F : Func} {b : Code} {args : List Operand} {ats : Array TypeId} {x : Operand} {cap : List Value} {pin pa pc : List Ent} {rin : Res} {m1 : Option σ} {q : σ → (Nat → Value) → Post} {kk : σ → Option ρ} (i : Nat) (ns : List Nat) (mp : List (Nat × Nat))
    (hi : os.toArray[i]? = some ⟨some d, .call ⟨.value x, args.toArray, ats⟩, ty, pos, after, g⟩) (hl : listed.setIfInBounds i true = listed') (hg : Grd os l ⟨some d, .call ⟨.value x, args.toArray, ats⟩, ty, pos, after, g⟩ true) (hn : Nat.blt d Γ.n = true)
    (hF : P.funcs[f]? = some F) (hB : F.body = some b) (hnm : (F.name == "runtime.NumGoroutine") = false) (hx : opE l x = some (.val (.func (.func f) #[] cap.toArray))) (hS : Spec P f pin rin m1 q) (hA : ArgsQ l args pa) (hC : CapQ res cap pc) (hpp : pin = pa ++ pc) (hr : SubR res rin ns) (hw : ns.all (fun n => ws.contains n) = true)
    (k : ∀ s nv, GH P os Γ ((d, .junk) :: l0) res0 ws ((d, retE (q s nv).ret) :: l) (aft ns mp (q s nv).res res) N fuel listed' (kk s)) :
    GO P os Γ l0 res0 ws l res N fuel listed i (m1 >>= kk) := oCallV i ns mp (fun _ _ => .junk) hi hl hg hn hF hB hnm hx hS hA hC hpp hr hw (fun _ _ _ _ _ _ _ _ => trivial) k
theorem oCallVF {σ : Type} {f : FuncId} {F : Func} {b : Code} {args : List Operand} {ats : Array TypeId} {x : Operand} {cap : List Value} {pin pa pc : List Ent} {rin : Res} {m1 : Option σ} {q : σ → (Nat → Value) → Post} {kk : σ → Option ρ} (i : Nat) (ns : List Nat) (mp : List (Nat × Nat))
    (hi : os.toArray[i]? = some ⟨some d, .call ⟨.value x, args.toArray, ats⟩, ty, pos, after, g⟩) (hl : listed.setIfInBounds i true = listed') (hg : Grd os l ⟨some d, .call ⟨.value x, args.toArray, ats⟩, ty, pos, after, g⟩ true) (hn : Nat.blt d Γ.n = true)
    (hF : P.funcs[f]? = some F) (hB : F.body = some b) (hnm : (F.name == "runtime.NumGoroutine") = false) (hx : opE l x = some (.val (.func (.func f) #[] cap.toArray))) (hS : Spec P f pin rin m1 q) (hA : ArgsQ l args pa) (hC : CapQ res cap pc) (hpp : pin = pa ++ pc) (hr : SubR res rin ns) (hw : ns.all (fun n => ws.contains n) = true)
    (hfl : ∀ s nv, (retE (q s nv).ret).flat) (k : ∀ s nv, GH P os Γ ((d, retE (q s nv).ret) :: l0) res0 ws ((d, retE (q s nv).ret) :: l) (aft ns mp (q s nv).res res) N fuel listed' (kk s)) :
    GO P os Γ l0 res0 ws l res N fuel listed i (m1 >>= kk) := oCallV i ns mp (fun s nv => retE (q s nv).ret) hi hl hg hn hF hB hnm hx hS hA hC hpp hr hw (fun s nv v S w S' w' h => hfl s nv S w S' w' v h) k
end
end Go.Proofs.Ytklfgpdfongaeaa
