/- Calls; structs that are built; regions that draw their order. Over any program. -/
import Derived.Test.YtklfgpdfongaeaaK7
namespace Go.Proofs.Ytklfgpdfongaeaa
open Go Go.RowKit
set_option linter.unusedSimpArgs false
set_option linter.unusedVariables false

/-! ### structs written out -/
def Bld {β : Type} (l : Slots) (place : Nat → Option (Nat × Nat)) (R : Rep β) : List (Nat × Operand) → β → β → Prop
  | [], x, x' => x = x'
  | (i, o) :: ps, x, x' => ∃ (α : Type) (T : Rep α) (y0 y : α) (off : Nat) (set : α → β), opE l o = some (.rd T y) ∧ Part R x off T y0 set ∧ place i = some (off, T.sz) ∧ Bld l place R ps (set y) x'
theorem Bld.nil {β : Type} {l : Slots} {place : Nat → Option (Nat × Nat)} {R : Rep β} {x : β} : Bld l place R [] x x := rfl
theorem Bld.cons {α β : Type} {l : Slots} {place : Nat → Option (Nat × Nat)} {R : Rep β} {i : Nat} {o : Operand} {ps : List (Nat × Operand)} {x x' : β} {T : Rep α} {y0 y : α} {off : Nat} {set : α → β}
    (p : Part R x off T y0 set) (h : opE l o = some (.rd T y)) (hp : place i = some (off, T.sz)) (k : Bld l place R ps (set y) x') : Bld l place R ((i, o) :: ps) x x' := ⟨α, T, y0, y, off, set, h, p, hp, k⟩
theorem Bld.get {β : Type} {Γ : Ctx} {l : Slots} {res : Res} {a : Act} {w : World} (ha : Sta Γ l res a w) {place : Nat → Option (Nat × Nat)} {R : Rep β} : ∀ {ps : List (Nat × Operand)} {x x' : β} {C : Array Value}, Bld l place R ps x x' → R.rel (Shr Γ.H res w) w C.toList x →
    ∃ C', Instr.fill place C (ps.map fun p => (p.1, a.eval p.2)) = some C' ∧ R.rel (Shr Γ.H res w) w C'.toList x'
  | [], x, x', C, h, hr => by have h : x = x' := h; subst h; exact ⟨C, rfl, hr⟩
  | (i, o) :: ps, x, x', C, h, hr => by
    obtain ⟨α, T, y0, y, off, set, h1, h2, h3, h4⟩ := h
    obtain ⟨cs, k1, k2⟩ := ha.vl h1
    obtain ⟨a', c, d, g1, g2, g3, g4⟩ := h2 _ w _ hr
    have hv : (a.eval o).cells.toList = cs := by rw [k2]; exact Rep.val_cells k1
    have hvs : (a.eval o).cells.size = T.sz := by rw [← Array.length_toList, hv, T.len k1]
    have hsz : C.size = a'.length + T.sz + d.length := by
      have : C.toList.length = C.size := by simp
      rw [← this, g1]; simp [T.len g3]; omega
    have hsp : spl C off (a.eval o).cells.toList = (a' ++ cs ++ d).toArray := by
      rw [hv]; unfold spl; rw [g1, ← g2]; congr 1
      have : cs.length = c.length := by rw [T.len k1, T.len g3]
      simp [this]
    have := Bld.get ha (C := (a' ++ cs ++ d).toArray) h4 (g4 _ w cs y Stay.rfl' k1)
    obtain ⟨C', q1, q2⟩ := this
    refine ⟨C', ?_, q2⟩
    simp only [List.map_cons]
    rw [fill_step h3 hvs (by omega), hsp]; exact q1
theorem run_places {P : Program} {w : World} : ∀ (fs : List Field) (pl : List (Nat × Nat)), fs.map (fun f => (f.offset, (P.info? f.type).map (·.size))) = pl.map (fun p => (p.1, some p.2)) →
    (fs.mapM (m := Sem) fun f => do pure (f.offset, ← sizeOf f.type)).run P w = .ok pl w
  | [], [], _ => rfl
  | f :: fs, p :: pl, h => by
    simp only [List.map_cons, List.cons.injEq, Prod.mk.injEq] at h
    obtain ⟨⟨h1, h2⟩, h3⟩ := h
    have hs : (sizeOf f.type).run P w = .ok p.2 w := by
      cases hi : P.info? f.type with
      | none => rw [hi] at h2; cases h2
      | some i =>
        rw [hi] at h2
        simp only [Option.map_some, Option.some.injEq] at h2
        simp [sizeOf, typeInfo, program, hi, h2, pure, bind, Sem.bind, Sem.run]
    simp only [List.mapM_cons, Sem.run_bind, hs, Result.andThen, Sem.run_pure, run_places fs pl h3, h1]
  | [], _ :: _, h => by cases h
  | _ :: _, [], h => by cases h
section
variable {C : World → World → Prop} {ρ : Type} {P : Program} {Γ : Ctx} {l : Slots} {res : Res} {m : Option ρ} {os rest : List Oper} {N : ρ → Exit → Act → World → Prop}
  {d : Tmp} {ty : TypeId} {pos : String} {after : Array Edge} {g : Option (Nat × Bool)}
/-- A struct is written out. -/
theorem bld {β : Type} {R : Rep β} {x0 x' : β} {T : TypeId} {z : Value} {sz by_ : Nat} {parts : Array (Nat × Operand)} {fs : Array Field} (pl : List (Nat × Nat)) (hT : P.underlying T = some (.struct fs)) (hI : TI P T z sz by_) (hag : R.agg = true) (hz : Zr R z.cells.toList x0)
    (hp : fs.toList.map (fun f => (f.offset, (P.info? f.type).map (·.size))) = pl.map (fun p => (p.1, some p.2))) (h : Bld l (fun i : Nat => pl[i]?) R parts.toList x0 x') : Run C P Γ l res ⟨some d, .build T parts, ty, pos, after, g⟩ (.rd R x') := fun a w ha => by
  obtain ⟨C', h1, h2⟩ := h.get ha (hz _ w)
  refine ⟨.agg C', fun w' _ => q0_build rfl ?_, C'.toList, h2, by simp [Rep.val, hag]⟩
  have e1 : (fs.mapM (m := Sem) fun f => do pure (f.offset, ← sizeOf f.type)).run P w' = .ok pl.toArray w' := by
    rw [← Array.toArray_toList (xs := fs), List.mapM_toArray]
    simp only [map_eq_pure_bind, Sem.run_bind, run_places fs.toList pl hp, Result.andThen, Sem.run_pure]
  have e2 : (parts.map fun (i, x) => (i, a.eval x)).toList = parts.toList.map fun p => (p.1, a.eval p.2) := by simp
  unfold Instr.build
  simp only [Sem.run_bind, run_zero hI, Result.andThen, run_underlying hT, e1, e2]
  have e3 : (fun i : Nat => pl.toArray[i]?) = fun i : Nat => pl[i]? := by funext i; simp
  rw [e3, h1]; rfl
/-- an array, all of it -/
theorem bldA {α : Type} {R : Rep α} {n : Nat} (b : List α) (v : Vector α n) (xs : List Operand) {T e : TypeId} {z : Value} {sz by_ by2 : Nat} {ze : Value} {parts : Array (Nat × Operand)} (hT : P.underlying T = some (.array n e)) (hI : TI P T z sz by_) (hzs : z.cells.size = n * R.sz) (hE : TI P e ze R.sz by2) (hp : parts = (xs.zipIdx.map fun x => (x.2, x.1)).toArray) (hx : RdA l R xs b) (hv : v.toList = b) :
    Run C P Γ l res ⟨some d, .build T parts, ty, pos, after, g⟩ (.rd (arrR n R) v) := fun a w ha => by
  obtain ⟨k1, k2, k3⟩ := RdA.get ha hx
  have hbn : b.length = n := by rw [← hv]; simp
  have hc : Instr.fill (fun i => some (i * R.sz, R.sz)) z.cells ((xs.map a.eval).zipIdx.map fun x => (x.2, x.1)) = some (catC (xs.map a.eval)).toArray := by
    have := fill_all (sz := R.sz) (xs.map a.eval) 0 z.cells k3 (by simp [hzs, k2, hbn])
    simpa using this
  have hev : (parts.map fun (i, x) => (i, a.eval x)).toList = (xs.map a.eval).zipIdx.map fun x => (x.2, x.1) := by
    subst hp
    simp [List.zipIdx_map]
  refine ⟨.agg (catC (xs.map a.eval)).toArray, fun w' _ => q0_build rfl ?_, catC (xs.map a.eval), by rw [← hv] at k1; exact k1, rfl⟩
  unfold Instr.build
  simp only [Sem.run_bind, run_zero hI, Result.andThen, run_underlying hT, run_sizeOf hE, hev, hc]
  rfl

/-! ### what a call leaves -/
def retE : List Ent → Ent
  | [e] => e
  | es => .tup es
theorem retE_holds {S : Blk} {w : World} {es : List Ent} {vs : List Value} (h : holdsL S w es vs) : (retE es).holds S w (retv vs) := by
  match es, vs, h with
  | [], [], _ => exact ⟨[], trivial, rfl⟩
  | [e], [v], h => exact h.1
  | e :: e2 :: es, v :: v2 :: vs, h => exact ⟨v :: v2 :: vs, h, rfl⟩
  | [], _ :: _, h => exact h.elim
  | _ :: _, [], h => exact h.elim
  | [_], _ :: _ :: _, h => exact h.2.elim
  | _ :: _ :: _, [_], h => exact h.2.elim
def nm (mp : List (Nat × Nat)) (k : Nat) : Nat := (lk mp k).getD k
/-- the resources behind a call: ns were lent, the names of the callee's become those of the caller by mp -/
def aft (ns : List Nat) (mp : List (Nat × Nat)) (q res : Res) : Res := (q.map fun x => (nm mp x.1, x.2)) ++ (ns.map fun n => (n, none)) ++ res
theorem lk_app {α : Type} : ∀ {l l' : List (Nat × α)} {t : Nat}, lk (l ++ l') t = (lk l t).or (lk l' t)
  | [], l', t => by simp [lk]
  | (k, v) :: l, l', t => by
    rw [List.cons_append, lk_cons, lk_cons]
    split
    · rfl
    · exact lk_app
theorem lk_none {ns : List Nat} {t : Nat} : lk (ns.map fun n => (n, (none : Option (Value × Cont)))) t = if ns.contains t then some none else none := by
  induction ns with
  | nil => rfl
  | cons n ns ih =>
    rw [List.map_cons, lk_cons, ih]
    by_cases h : n = t
    · subst h; simp
    · simp [h, Ne.symm h]
theorem lk_ren {mp : List (Nat × Nat)} {k : Nat} {y : Option (Value × Cont)} : ∀ {q : Res}, lk (q.map fun x => (nm mp x.1, x.2)) k = some y → ∃ k', nm mp k' = k ∧ lk q k' = some y
  | [], h => by cases h
  | (k0, y0) :: q, h => by
    rw [List.map_cons, lk_cons] at h
    split at h
    · rename_i hk; cases h; exact ⟨k0, hk, by rw [lk_cons, if_pos rfl]⟩
    · rename_i hk
      obtain ⟨k', h1, h2⟩ := lk_ren h
      refine ⟨k', h1, ?_⟩
      rw [lk_cons, if_neg (fun e => hk (by rw [e]; exact h1))]; exact h2
theorem lr_aft {ns : List Nat} {mp : List (Nat × Nat)} {q : Res} {k : Nat} {v : Value} {c : Cont} (h : lr (aft ns mp q res) k = some (v, c)) :
    (∃ k', nm mp k' = k ∧ lr q k' = some (v, c)) ∨ (ns.contains k = false ∧ lr res k = some (v, c)) := by
  unfold lr aft at h
  rw [lk_app, lk_app, lk_none] at h
  cases hq : lk (q.map fun x => (nm mp x.1, x.2)) k with
  | some y =>
    rw [hq] at h
    simp only [Option.some_or, Option.getD_some] at h
    subst h
    obtain ⟨k', h1, h2⟩ := lk_ren hq
    exact .inl ⟨k', h1, by simp [lr, h2]⟩
  | none =>
    rw [hq] at h
    by_cases hn : ns.contains k = true
    · rw [if_pos hn] at h; simp at h
    · rw [if_neg hn] at h
      simp only [Option.none_or] at h
      exact .inr ⟨by simpa using hn, h⟩
/-- nothing in it hangs on the world -/
def Ent.flat (e : Ent) : Prop := ∀ S w S' w' v, e.holds S w v → e.holds S' w' v
theorem Sta.called {a : Act} {w w' : World} (ha : Sta Γ l res a w) {rin : Res} {ns : List Nat} {mp : List (Nat × Nat)} {H : Blk} {q : Post} {vs : List Value} (hr : SubR res rin ns)
    (hH : ∀ b, H b ↔ Γ.H b ∨ ∃ r v c, lr res r = some (v, c) ∧ ns.contains r = false ∧ rblk v = some b) (hp : PostOk H rin q w w' vs) :
    (Sta Γ l (aft ns mp q.res res) a w' ∧ Stay (Shr Γ.H res w) (Shr Γ.H (aft ns mp q.res res) w') w w') ∧ (retE q.ret).holds (Shr Γ.H (aft ns mp q.res res) w') w' (retv vs) ∧
      (∀ b, b < w.heap.size → ¬ Bof rin b → w'.heap[b]? = w.heap[b]?) := by
  have hin : ∀ b, Bof rin b → ∃ n ∈ ns, ∃ v c, lr res n = some (v, c) ∧ rblk v = some b := fun b ⟨r, v, c, h1, h2⟩ => by
    obtain ⟨n, h3, h4⟩ := hr.get h1; exact ⟨n, h3, v, c, h4, h2⟩
  have hother : ∀ k v c, ns.contains k = false → lr res k = some (v, c) → ∀ b, rblk v = some b → b < w.heap.size ∧ ¬ Bof rin b := fun k v c hk h b hb => by
    refine ⟨(ha.conts k v c h).lt hb, fun hB => ?_⟩
    obtain ⟨n, h1, v', c', h2, h3⟩ := hin b hB
    have hne : n ≠ k := fun e => by subst e; simp at hk; exact hk h1
    exact ha.excl n v' c' k v c h2 h hne b h3 hb
  have hnew : ∀ k v c, lr q.res k = some (v, c) → ∀ k' v' c', ns.contains k' = false → lr res k' = some (v', c') → ∀ b, rblk v = some b → rblk v' ≠ some b := fun k v c h k' v' c' hk' h' b hb e => by
    obtain ⟨h1, h2⟩ := hother k' v' c' hk' h' b e
    rcases hp.own k v c h b hb with h3 | h3
    · omega
    · exact h2 h3
  have hst : Stay (Shr Γ.H res w) (Shr Γ.H (aft ns mp q.res res) w') w w' := fun b hb => by
    have hnb : ¬ Bof rin b := fun hB => by obtain ⟨n, _, v, c, h2, h3⟩ := hin b hB; exact hb.2.1 n v c h2 h3
    refine ⟨⟨Nat.lt_of_lt_of_le hb.1 hp.keep.size, fun k v c h e => ?_, hb.2.2⟩, hp.keep.block b ⟨hb.1, hnb⟩⟩
    rcases lr_aft h with ⟨k', _, h1⟩ | ⟨_, h1⟩
    · rcases hp.own k' v c h1 b e with h3 | h3
      · have := hb.1; omega
      · exact hnb h3
    · exact hb.2.1 k v c h1 e
  have hst2 : Stay (Shr H q.res w') (Shr Γ.H (aft ns mp q.res res) w') w' w' := fun b hb => by
    refine ⟨⟨hb.1, fun k v c h e => ?_, fun h => hb.2.2 ((hH b).2 (.inl h))⟩, rfl⟩
    rcases lr_aft h with ⟨k', _, h1⟩ | ⟨h0, h1⟩
    · exact hb.2.1 k' v c h1 e
    · exact hb.2.2 ((hH b).2 (.inr ⟨k, v, c, h1, h0, e⟩))
  refine ⟨⟨⟨ha.size, ha.defers, fun t e ht => ?_, fun k v c h => ?_, fun k v c k2 v2 c2 h h2 hne b hb => ?_, fun k v c h b hb => ?_, ?_, ha.old, ha.hid⟩, hst⟩, retE_holds (hp.ret.mono hst2), fun b h1 h2 => hp.keep.block b ⟨h1, h2⟩⟩
  · obtain ⟨u, h1, h2⟩ := ha.slots t e ht; exact ⟨u, h1, e.mono hst h2⟩
  · rcases lr_aft h with ⟨k', _, h1⟩ | ⟨h0, h1⟩
    · exact (hp.conts k' v c h1).mono hst2 (fun _ _ => rfl)
    · exact (ha.conts k v c h1).mono hst (fun b hb => hp.keep.block b (hother k v c h0 h1 b hb))
  · rcases lr_aft h with ⟨k', e1, h1⟩ | ⟨h0, h1⟩ <;> rcases lr_aft h2 with ⟨k2', e2, h3⟩ | ⟨h4, h3⟩
    · exact hp.excl k' v c k2' v2 c2 h1 h3 (fun e => hne (by rw [← e1, ← e2, e])) b hb
    · exact hnew k' v c h1 k2 v2 c2 h4 h3 b hb
    · exact fun e => hnew k2' v2 c2 h3 k v c h0 h1 b e hb
    · exact ha.excl k v c k2 v2 c2 h1 h3 hne b hb
  · rcases lr_aft h with ⟨k', _, h1⟩ | ⟨h0, h1⟩
    · rcases hp.own k' v c h1 b hb with h3 | h3
      · intro hK; have := ha.old_lt hK; omega
      · obtain ⟨n, _, v', c', h4, h5⟩ := hin b h3; exact ha.own n v' c' h4 b h5
    · exact ha.own k v c h1 b hb
  · refine ha.keep.tr hp.keep (fun b hK => ⟨ha.old_lt hK, fun hB => ?_⟩)
    obtain ⟨n, _, v, c, h4, h5⟩ := hin b hB
    exact ha.own n v c h4 b h5 hK
/-- the world that a call is handed -/
theorem ResOk.of {a : Act} {w : World} (ha : Sta Γ l res a w) {rin : Res} {ns : List Nat} {H : Blk} (hr : SubR res rin ns) (hH : ∀ b, H b ↔ Γ.H b ∨ ∃ r v c, lr res r = some (v, c) ∧ ns.contains r = false ∧ rblk v = some b) :
    ResOk H rin w ∧ Stay (Shr Γ.H res w) (Shr H rin w) w w := by
  have hst : Stay (Shr Γ.H res w) (Shr H rin w) w w := fun b hb => by
    refine ⟨⟨hb.1, fun r v c h e => ?_, fun h => ?_⟩, rfl⟩
    · obtain ⟨n, _, h1⟩ := hr.get h; exact hb.2.1 n v c h1 e
    · rcases (hH b).1 h with h1 | ⟨r, v, c, h1, _, h2⟩
      · exact hb.2.2 h1
      · exact hb.2.1 r v c h1 h2
  refine ⟨⟨fun r v c h => ?_, fun r v c r' v' c' h h' hne => ?_, fun b hb => ?_⟩, hst⟩
  · obtain ⟨n, _, h1⟩ := hr.get h; exact (ha.conts n v c h1).mono hst (fun _ _ => rfl)
  · obtain ⟨n, n2, h1, h2, h3⟩ := hr.get2 h h' hne; exact ha.excl n v c n2 v' c' h2 h3 h1
  · rcases (hH b).1 hb with h | ⟨r, v, c, h, h0, h2⟩
    · refine ⟨ha.old_lt (ha.hid b h), fun ⟨r, v, c, h1, h2⟩ => ?_⟩
      obtain ⟨n, _, h3⟩ := hr.get h1
      exact ha.own n v c h3 b h2 (ha.hid b h)
    · refine ⟨(ha.conts r v c h).lt h2, fun ⟨r', v', c', h1, h3⟩ => ?_⟩
      obtain ⟨n, hn, h4⟩ := hr.get h1
      have hne : n ≠ r := fun e => by subst e; simp at h0; exact h0 hn
      exact ha.excl n v' c' r v c h4 h hne b h3 h2
/-- arguments handed on as they are -/
def ArgsQ (l : Slots) : List Operand → List Ent → Prop
  | [], [] => True
  | o :: os, p :: ps => (∃ e, opE l o = some e ∧ ∀ S w v, e.holds S w v → p.holds S w v) ∧ ArgsQ l os ps
  | _, _ => False
theorem ArgsQ.get {a : Act} {w : World} (ha : Sta Γ l res a w) {S : Blk} (hk : Stay (Shr Γ.H res w) S w w) : ∀ {os : List Operand} {ps : List Ent}, ArgsQ l os ps → holdsL S w ps (os.map a.eval)
  | [], [], _ => trivial
  | o :: os, p :: ps, ⟨⟨e, h1, h2⟩, h3⟩ => ⟨p.mono hk (h2 _ _ _ (ha.vl h1)), ArgsQ.get ha hk h3⟩
  | [], _ :: _, h => h.elim
  | _ :: _, [], h => h.elim
/-- A call of a function by its contract. -/
theorem call {σ : Type} {f : FuncId} {F : Func} {b : Code} {args : List Operand} {ats : Array TypeId} {pin : List Ent} {rin : Res} {m1 : Option σ} {q : σ → (Nat → Value) → Post} {kk : σ → Option ρ} (ns : List Nat) (mp : List (Nat × Nat)) (hn : Nat.blt d Γ.n = true)
    (hF : P.funcs[f]? = some F) (hB : F.body = some b) (hnm : (F.name == "runtime.NumGoroutine") = false) (hS : Spec P f pin rin m1 q) (hA : ArgsQ l args pin) (hr : SubR res rin ns)
    (k : ∀ s nv, GL P os (Sta Γ ((d, retE (q s nv).ret) :: l) (aft ns mp (q s nv).res res)) rest N (kk s)) :
    GL P os (Sta Γ l res) (⟨some d, .call ⟨.value (.func f), args.toArray, ats⟩, ty, pos, after, none⟩ :: rest) N (m1 >>= kk) := fun a w ha r hm => by
  cases hm1 : m1 with
  | none => rw [hm1] at hm; cases hm
  | some s =>
    rw [hm1] at hm
    refine wpList_step fun K hK => ?_
    rw [if_pos (g_none rfl)]
    have hrun : (execOp a.eval ⟨some d, .call ⟨.value (.func f), args.toArray, ats⟩, ty, pos, after, none⟩).run P w = .ok (.enter f (args.map a.eval).toArray) w := by
      have e0 : a.eval (.func f) = .func (.func f) #[] #[] := rfl
      simp [execOp, resolve, e0, Deferred.ofValue, invoke, run_callF hF hB hnm]
    unfold Oper.wp; rw [hrun]
    simp only [Oper.upon]
    have hH : ∀ b, (fun b => Γ.H b ∨ ∃ r v c, lr res r = some (v, c) ∧ ns.contains r = false ∧ rblk v = some b) b ↔ Γ.H b ∨ ∃ r v c, lr res r = some (v, c) ∧ ns.contains r = false ∧ rblk v = some b := fun _ => Iff.rfl
    obtain ⟨h1, h2⟩ := ResOk.of ha hr hH
    refine (hS s hm1 _ _ w (ArgsQ.get ha h2 hA) h1).mono fun e w' hR => ?_
    obtain ⟨nv, vs, rfl, hp⟩ := hR
    obtain ⟨⟨h3, _⟩, h4, _⟩ := ha.called (mp := mp) hr hH hp
    exact hK _ _ (k s nv _ _ (h3.put hn h4) r hm)
end
end Go.Proofs.Ytklfgpdfongaeaa
