/- Results in memory; slices that are made, cut and appended to. Over any program P. -/
import Derived.Test.YtklfgpdfongaeaaLibC
namespace Go.Proofs.Ytklfgpdfongaeaa
open Go Go.RowKit
set_option linter.unusedSimpArgs false
set_option linter.unusedVariables false

/-! ### results -/
def retv : List Value → Value
  | [v] => v
  | vs => .tuple vs.toArray
def ResOK (P : Program) (w : World) (l : List (Nat × Value)) : List ResultVar → List Value → Prop
  | [], [] => True
  | .tmp t :: rs, v :: vs => look l t = some v ∧ ResOK P w l rs vs
  | .cell t T :: rs, v :: vs => (∃ p, look l t = some (.pointer (some p)) ∧ (loadVar T p).run P w = .ok v w) ∧ ResOK P w l rs vs
  | _, _ => False
theorem run_results {P : Program} {w : World} {n : Nat} {l : List (Nat × Value)} {a : Act} {fn : Func} {rs : List ResultVar} {vs : List Value} (f : Frm n l a)
    (hr : fn.results = rs.toArray) (h : ResOK P w l rs vs) : (results fn a.tmps).run P w = .ok (retv vs) w := by
  have key : ∀ (F : ResultVar → Sem Value), (∀ t, F (.tmp t) = pure (a.tmps.getD t undef)) → (∀ x t, F (.cell x t) = do loadVar t (← asAddr (a.tmps.getD x undef))) →
      ∀ (rs : List ResultVar) (vs : List Value), ResOK P w l rs vs → (rs.mapM F).run P w = .ok vs w := by
    intro F hF1 hF2 rs
    induction rs with
    | nil => intro vs h; cases vs with | nil => rfl | cons => exact h.elim
    | cons r rs ih =>
      intro vs h
      cases vs with
      | nil => cases r <;> exact h.elim
      | cons v vs =>
        cases r with
        | tmp t =>
          obtain ⟨h1, h2⟩ := h
          simp only [List.mapM_cons, hF1, Sem.run_bind, Sem.run_pure, f.getD h1, Result.andThen, ih vs h2]
        | cell t T =>
          obtain ⟨⟨p, h1, h3⟩, h2⟩ := h
          have e : asAddr (.pointer (some p)) = pure p := rfl
          simp only [List.mapM_cons, hF2, f.getD h1, e, Sem.run_bind, Sem.run_pure, h3, Result.andThen, ih vs h2]
  have h2 := fun F h1 h2 => key F h1 h2 rs vs h
  unfold results
  rw [hr, List.mapM_toArray]
  simp only [map_eq_pure_bind, Sem.run_bind]
  rw [h2 _ (fun _ => rfl) (fun _ _ => rfl)]
  simp only [Result.andThen, Sem.run_pure]
  congr 1
  unfold retv
  match vs with
  | [] => rfl
  | [v] => rfl
  | v :: u :: us => simp
theorem retG {P : Program} {w : World} {n : Nat} {l : List (Nat × Value)} {a : Act} {fn : Func} {R : Ending → World → Prop} {rs : List ResultVar} {vs : List Value} (f : Frm n l a)
    (hr : fn.results = rs.toArray) (h : ResOK P w l rs vs) (hR : R (.returned (retv vs)) w) : bodyPost P fn R .ret a w :=
  bodyPost_ret (run_results f hr h) f.defers hR

theorem slice_form {w B T sz v n xs} (h : World.ownsRow w B T sz v n xs) : ∃ p c, v = .slice p n c := by
  rcases h.2 with ⟨rfl, rfl⟩ | ⟨g, cap, cur, rfl, _⟩
  · exact ⟨none, 0, rfl⟩
  · exact ⟨_, _, rfl⟩
theorem rd_form {w v n sz xs} (h : Rd w v n sz xs) : ∃ p c, v = .slice p n c := by
  rcases h.2 with ⟨rfl, rfl⟩ | ⟨b, o, sp, cap, rfl, _⟩
  · exact ⟨none, 0, rfl⟩
  · exact ⟨_, _, rfl⟩

section
variable {P : Program} {ops : Array Oper} {Q : Exit → Act → World → Prop} {a : Act} {w : World} {rest : List Oper} {n : Nat} {l : List (Nat × Value)}
  {d : Tmp} {ty : TypeId} {pos : String} {after : Array Edge} {g : Option (Nat × Bool)}

/-! ### make, literals -/
theorem s_make {T e : TypeId} {x y : Operand} {z : Value} {sz by_ m B : Nat} {k k' : IntKind} {i i' : Int} (f : Frm n l a)
    (hw : Region.wanted ⟨some d, .makeSlice T x y, ty, pos, after, g⟩ (yielded ops a.tmps) = true) (hd : Nat.blt d n = true)
    (hT : P.underlying T = some (.slice e)) (hE : TI P e z sz by_) (hx : opv l x = some (.int k i)) (hy : opv l y = some (.int k' i')) (hi : i = (m : Int)) (hi' : i' = (m : Int))
    (hby : by_ * m ≤ 281474976710656) (hm : m ≤ 9223372036854775807) (hB : B ≤ w.heap.size)
    (c : ∀ a' w' p cp, Frm n ((d, .slice p m cp) :: l) a' → Ext w w' → w'.ownsRow B e sz (.slice p m cp) m (madeCells z.cells (m * sz)).toList →
      (∀ b, (Value.slice p m cp).ownBlock = some b → w.heap.size ≤ b) → wpList P ops Q rest a' w') :
    wpList P ops Q (⟨some d, .makeSlice T x y, ty, pos, after, g⟩ :: rest) a w := by
  subst hi; subst hi'
  obtain ⟨ti, h1, h2, h3, h4⟩ := hE
  obtain ⟨w', hr, ho, hg⟩ := run_make_full (P := P) w B T e ti z sz hT h1 h2 h3 k k' m (by rw [h4]; exact hby) (by unfold maxLen; omega) hB
  exact stv (w' := w') f hw hd (by simp [execOp, f.ev hx, f.ev hy, hr]) (fun a' f' => c a' w' _ _ f' (gr_none hg) ho (by intro b hb; simp [Value.ownBlock] at hb; omega))
/-- the cells of a literal of a slice, ahead of its parts -/
def zeroRow (z : Value) (k : Nat) : Array Value := (Array.range k).map ((if k = 0 then #[] else z.cells)[· % (if k = 0 then #[] else z.cells).size]!)
theorem run_bslice {T e : TypeId} {m : Nat} {vs : Array (Nat × Value)} {z : Value} {sz by_ : Nat} {cells : Array Value} (hT : P.underlying T = some (.slice e)) (hE : TI P e z sz by_) (hm : m * sz ≤ 16777216)
    (hc : Instr.fill (fun i => some (i * sz, sz)) (zeroRow z (m * sz)) vs.toList = some cells) :
    (Instr.buildSlice T m vs).run P w = .ok (.slice (some ⟨w.heap.size, 0, none⟩) m m) (w.alloc (.cells cells e)) := by
  have hn : ¬ m * sz > 2 ^ 24 := by omega
  unfold zeroRow at hc
  unfold Instr.buildSlice
  simp only [Sem.run_bind, run_underlying hT, Result.andThen, run_sizeOf hE, hn, if_false]
  by_cases h0 : m * sz = 0
  · rw [if_pos h0] at hc
    rw [if_pos h0]
    simp only [Sem.run_bind, Sem.run_pure, Result.andThen, hc]
    rfl
  · rw [if_neg h0] at hc
    rw [if_neg h0]
    simp only [Sem.run_bind, run_zero hE, Result.andThen, Sem.run_pure, hc]
    rfl
/-- A literal of a slice: its cells by evaluation. -/
theorem s_bslice {T e : TypeId} {m : Nat} {parts : Array (Nat × Operand)} {vs : Array (Nat × Value)} {z : Value} {sz by_ B : Nat} {cells : Array Value} (f : Frm n l a)
    (hw : Region.wanted ⟨some d, .buildSlice T m parts, ty, pos, after, g⟩ (yielded ops a.tmps) = true) (hd : Nat.blt d n = true)
    (hT : P.underlying T = some (.slice e)) (hE : TI P e z sz by_) (hp : (parts.map fun (i, x) => (i, a.eval x)) = vs) (hm : m * sz ≤ 16777216)
    (hc : Instr.fill (fun i => some (i * sz, sz)) (zeroRow z (m * sz)) vs.toList = some cells) (hcs : cells.size = m * sz) (hB : B ≤ w.heap.size) (hsz : 0 < sz)
    (c : ∀ a' w' p cp, Frm n ((d, .slice p m cp) :: l) a' → Ext w w' → w'.ownsRow B e sz (.slice p m cp) m cells.toList →
      (∀ b, (Value.slice p m cp).ownBlock = some b → w.heap.size ≤ b) → wpList P ops Q rest a' w') :
    wpList P ops Q (⟨some d, .buildSlice T m parts, ty, pos, after, g⟩ :: rest) a w := by
  have hm' : m ≤ maxLen := by
    have : m ≤ m * sz := Nat.le_mul_of_pos_right _ hsz
    unfold maxLen; omega
  refine stv (w' := w.alloc (.cells cells e)) f hw hd ?_ (fun a' f' => c a' _ _ _ f' (Ext.al _ _) (World.ownsRow_lit w cells m hB hm' hcs) (by intro b hb; simp [Value.ownBlock] at hb; omega))
  subst hp
  simp only [execOp, Sem.run_bind, run_bslice hT hE hm hc, Result.andThen, Sem.run_pure]
/-- A struct or array literal: by evaluation. -/
theorem s_build {t : TypeId} {parts : Array (Nat × Operand)} {vs : Array (Nat × Value)} {v : Value} (f : Frm n l a)
    (hw : Region.wanted ⟨some d, .build t parts, ty, pos, after, g⟩ (yielded ops a.tmps) = true) (hd : Nat.blt d n = true)
    (hp : (parts.map fun (i, x) => (i, a.eval x)) = vs) (hr : (Instr.build t vs).run P w = .ok v w)
    (c : ∀ a', Frm n ((d, v) :: l) a' → wpList P ops Q rest a' w) : wpList P ops Q (⟨some d, .build t parts, ty, pos, after, g⟩ :: rest) a w :=
  stv f hw hd (by
    subst hp
    simp only [execOp, Sem.run_bind, hr, Result.andThen, Sem.run_pure]) c

/-! ### append -/
theorem run_append_rd {T e rt : TypeId} {z : Value} {sz by_ B : Nat} {p q : Option Addr} {k m c c2 : Nat} {xs news : List Value} (hT : P.underlying T = some (.slice e)) (hE : TI P e z sz by_) (hz : z.cells.size = sz) (hsz : 0 < sz)
    (ho : w.ownsRow B e sz (.slice p k c) k xs) (hr : Rd w (.slice q m c2) m sz news) (h1 : ∀ u ∈ news, u.oneCell' = true)
    (hlen : k + m ≤ 9223372036854775807) (hby : (k + m) * by_ ≤ 140737488355328) (hB : B ≤ w.heap.size) :
    ∃ p' c' w', (Builtin.append_ #[T, T] rt #[.slice p k c, .slice q m c2]).run P w = .ok (.slice p' (k + m) c') w' ∧ w'.ownsRow B e sz (.slice p' (k + m) c') (k + m) (xs ++ news) ∧
      w.grownBy w' (Value.slice p k c).ownBlock ∧ (∀ b, (Value.slice p' (k + m) c').ownBlock = some b → (Value.slice p k c).ownBlock = some b ∨ w.heap.size ≤ b) := by
  obtain ⟨ti, g1, g2, g3, g4⟩ := hE
  rcases hr.2 with ⟨hq, rfl⟩ | ⟨b, o, sp, cap, hq, _, _, hsp, hcell⟩
  · simp only [Value.slice.injEq, true_and] at hq
    obtain ⟨rfl, rfl⟩ := hq
    have hnil : news = [] := by have := hr.1; simpa using this
    subst hnil
    refine ⟨p, c, w, ?_, by simpa using ho, ⟨rfl, rfl, rfl, Nat.le_refl _, fun _ _ _ => rfl⟩, fun b hb => .inl hb⟩
    exact run_append_owned_none (P := P) w B T rt e ti sz hT g1 _ k xs ho
  · simp only [Value.slice.injEq, true_and] at hq
    obtain ⟨rfl, rfl⟩ := hq
    have hml : maxLen = 9223372036854775807 := rfl
    have hn : ∀ j u, news[j]? = some u → w.cell? ((⟨b, o, sp⟩ : Addr).add j) = some u := fun j u hu => by
      rcases hsp with rfl | rfl
      · simp at hu
      · rw [add_none]; exact hcell j u hu
    obtain ⟨v', w', hrun, ho', hg, -⟩ := run_append_own (P := P) w B T rt e ti z sz by_ hT g1 g2 g3 g4 hz hsz _ k xs ho ⟨b, o, sp⟩ m c2 news hr.1
      hn h1 (by omega) hby hB
    obtain ⟨p', c', rfl⟩ := slice_form ho'
    refine ⟨p', c', w', hrun, ho', hg, fun b' hb' => ?_⟩
    have hml' : k + m ≤ maxLen := by omega
    rcases ho.2 with ⟨hv, h0⟩ | ⟨g', cap', cur, hv, hbg, hg', hnc, hcm, hcs, htake⟩
    · simp only [Value.slice.injEq] at hv
      obtain ⟨rfl, -, rfl⟩ := hv
      subst h0
      by_cases hm : m = 0
      · subst hm
        exfalso
        have hx : news = [] := List.eq_nil_of_length_eq_zero (by simpa using hr.1)
        subst hx
        simp [Builtin.append_, run_underlying hT, sizeOf, typeInfo, g1, Builtin.lenOf, Builtin.firstCells, loadCells, loadCellsFrom] at hrun
        obtain ⟨⟨rfl, _⟩, _⟩ := hrun
        simp [Value.ownBlock] at hb'
      · have hr' := run_append_nil (P := P) w T rt e ti z hT g1 g2 ⟨b, o, sp⟩ m c2 news (by rw [g3]; exact hr.1) hn (by omega) (by omega) (by rw [g4]; simp only [Nat.zero_add] at hby; omega)
        rw [hr'] at hrun
        simp only [Result.ok.injEq, Value.slice.injEq] at hrun
        obtain ⟨⟨rfl, _⟩, _⟩ := hrun
        simp only [Value.ownBlock, Option.some.injEq] at hb'
        exact .inr (by omega)
    · simp only [Value.slice.injEq, true_and] at hv
      obtain ⟨rfl, rfl⟩ := hv
      by_cases hroom : k + m ≤ c
      · have hfit : k * ti.size + news.length ≤ cur.size := by rw [g3, hr.1, hcs, ← Nat.add_mul]; exact Nat.mul_le_mul_right _ hroom
        have hr' := run_append_room (P := P) w T rt e ti hT g1 g' k c cur hg' ⟨b, o, sp⟩ m c2 news (by rw [g3]; exact hr.1) hn h1 hroom hfit
        rw [hr'] at hrun
        simp only [Result.ok.injEq, Value.slice.injEq] at hrun
        obtain ⟨⟨rfl, _⟩, _⟩ := hrun
        exact .inl hb'
      · have holds : ∀ j u, xs[j]? = some u → w.cell? ((⟨g', 0, none⟩ : Addr).add j) = some u := ho.cells (g := g') rfl
        have hr' := run_append_grow (P := P) w T rt e ti z hT g1 g2 ⟨g', 0, none⟩ k c xs (by rw [g3]; exact ho.1) holds ⟨b, o, sp⟩ m c2 news (by rw [g3]; exact hr.1) hn (by omega) (by omega) (growslice_fits (by omega) (by rw [g4]; exact hby))
        rw [hr'] at hrun
        simp only [Result.ok.injEq, Value.slice.injEq] at hrun
        obtain ⟨⟨rfl, _⟩, _⟩ := hrun
        simp only [Value.ownBlock, Option.some.injEq] at hb'
        exact .inr (by omega)
theorem s_append {T e : TypeId} {x y : Operand} {z : Value} {sz by_ B : Nat} {p q : Option Addr} {k m cp c2 : Nat} {xs news : List Value} (f : Frm n l a)
    (hw : Region.wanted ⟨some d, .call ⟨.builtin .append, #[x, y], #[T, T]⟩, ty, pos, after, g⟩ (yielded ops a.tmps) = true) (hd : Nat.blt d n = true)
    (hT : P.underlying T = some (.slice e)) (hE : TI P e z sz by_) (hz : z.cells.size = sz) (hsz : 0 < sz)
    (hx : opv l x = some (.slice p k cp)) (hy : opv l y = some (.slice q m c2))
    (ho : w.ownsRow B e sz (.slice p k cp) k xs) (hr : Rd w (.slice q m c2) m sz news) (h1 : ∀ u ∈ news, u.oneCell' = true)
    (hlen : k + m ≤ 9223372036854775807) (hby : (k + m) * by_ ≤ 140737488355328) (hB : B ≤ w.heap.size)
    (c : ∀ a' w' p' c', Frm n ((d, .slice p' (k + m) c') :: l) a' → w'.ownsRow B e sz (.slice p' (k + m) c') (k + m) (xs ++ news) →
      w.grownBy w' (Value.slice p k cp).ownBlock → (∀ b, (Value.slice p' (k + m) c').ownBlock = some b → (Value.slice p k cp).ownBlock = some b ∨ w.heap.size ≤ b) → wpList P ops Q rest a' w') :
    wpList P ops Q (⟨some d, .call ⟨.builtin .append, #[x, y], #[T, T]⟩, ty, pos, after, g⟩ :: rest) a w := by
  obtain ⟨p', c', w', hrun, ho', hg, hsep⟩ := run_append_rd (rt := ty) hT hE hz hsz ho hr h1 hlen hby hB
  exact stv (w' := w') f hw hd (by simp [execOp, resolve, invoke, builtin, f.ev hx, f.ev hy, hrun]) (fun a' f' => c a' w' p' c' f' ho' hg hsep)

/-! ### cutting a slice -/
theorem Rd.sub {v m sz xs} (h : Rd w v m sz xs) {p : Option Addr} {cp : Nat} (hv : v = .slice p m cp) {i j : Nat} (hij : i ≤ j) (hj : j ≤ m) :
    Rd w (.slice (if cp = i then p else p.map (·.add (i * sz))) (j - i) (cp - i)) (j - i) sz ((xs.drop (i * sz)).take ((j - i) * sz)) := by
  subst hv
  have hl := h.1
  have h1 : (j - i) * sz + i * sz ≤ m * sz := by
    rw [← Nat.add_mul]; exact Nat.mul_le_mul_right _ (by omega)
  refine ⟨by simp [hl]; omega, ?_⟩
  rcases h.2 with ⟨hv, rfl⟩ | ⟨b, o, sp, cap, hv, h2, h3, hsp, h4⟩
  · simp only [Value.slice.injEq, true_and] at hv
    obtain ⟨rfl, rfl⟩ := hv
    have : i = 0 := by omega
    have : j = 0 := by omega
    subst i; subst j
    exact .inl (by simp)
  · simp only [Value.slice.injEq, true_and] at hv
    obtain ⟨rfl, rfl⟩ := hv
    by_cases hc : cp = i
    · have hji : j - i = 0 := by omega
      refine .inr ⟨b, o, sp, cp - i, by simp [hc], by omega, by omega, .inl (by simp [hji]), fun q u hu => ?_⟩
      exfalso
      have hq := (List.getElem?_eq_some_iff.1 hu).1
      simp [hji] at hq
    · have hadd : ∃ sp', (⟨b, o, sp⟩ : Addr).add (i * sz) = ⟨b, o + i * sz, sp'⟩ ∧ (xs = [] ∨ sp' = none) := by
        rcases hsp with rfl | rfl
        · unfold Addr.add; split
          · rename_i h0; exact ⟨sp, by simp [h0], .inl rfl⟩
          · exact ⟨none, rfl, .inl rfl⟩
        · exact ⟨none, add_none _ _ _, .inr rfl⟩
      obtain ⟨sp', ha, hsp'⟩ := hadd
      refine .inr ⟨b, o + i * sz, sp', cp - i, by simp [hc, ha], by omega, by omega, hsp'.imp (fun e => by simp [e]) id, fun q u hu => ?_⟩
      have hq := (List.getElem?_eq_some_iff.1 hu).1
      rw [List.getElem?_take] at hu
      split at hu
      · rw [List.getElem?_drop] at hu
        rw [Nat.add_assoc]
        exact h4 _ _ hu
      · cases hu
theorem sub_own {p : Option Addr} {m cp i j k sz : Nat} : (Value.slice (if cp = i then p else p.map (·.add (i * sz))) j k).ownBlock = (Value.slice p m cp).ownBlock := by
  cases p with
  | none => simp [Value.ownBlock]
  | some q => by_cases h : cp = i <;> simp [h, Value.ownBlock, Addr.add] <;> split <;> rfl
/-- x[i:j] -/
theorem s_cut {T e : TypeId} {x : Operand} {lo hi : Option Operand} {z : Value} {sz by_ i j m cp : Nat} {p : Option Addr} {xs : List Value} (f : Frm n l a)
    (hw : Region.wanted ⟨some d, .slice T x lo hi none, ty, pos, after, g⟩ (yielded ops a.tmps) = true) (hd : Nat.blt d n = true)
    (hT : P.underlying T = some (.slice e)) (hE : TI P e z sz by_) (hx : opv l x = some (.slice p m cp)) (hr : Rd w (.slice p m cp) m sz xs)
    (hlo : (lo = none ∧ i = 0) ∨ ∃ y k, lo = some y ∧ opv l y = some (.int k (i : Int))) (hhi : (hi = none ∧ j = m) ∨ ∃ y k, hi = some y ∧ opv l y = some (.int k (j : Int)))
    (hij : i ≤ j) (hj : j ≤ m)
    (c : ∀ a' p' c', Frm n ((d, .slice p' (j - i) c') :: l) a' → Rd w (.slice p' (j - i) c') (j - i) sz ((xs.drop (i * sz)).take ((j - i) * sz)) →
      (Value.slice p' (j - i) c').ownBlock = (Value.slice p m cp).ownBlock → wpList P ops Q rest a' w) :
    wpList P ops Q (⟨some d, .slice T x lo hi none, ty, pos, after, g⟩ :: rest) a w := by
  have hcap : m ≤ cp := by
    rcases hr.2 with ⟨hv, h0⟩ | ⟨b, o, sp, cap, hv, h2, h3, hsp, h4⟩
    · omega
    · simp only [Value.slice.injEq, true_and] at hv; omega
  have hb : (Instr.sliceBounds true m cp (lo.map a.eval) (hi.map a.eval) none).run P w = .ok (i, j, cp) w := by
    rcases hlo with ⟨rfl, rfl⟩ | ⟨y, k, rfl, hy⟩ <;> rcases hhi with ⟨rfl, rfl⟩ | ⟨y', k', rfl, hy'⟩
    · simp [Instr.sliceBounds]
    · have : (j : Int) ≤ cp := by omega
      simp [Instr.sliceBounds, f.ev hy', Instr.sliceBound, asIntOf]; omega
    · simp [Instr.sliceBounds, f.ev hy, Instr.sliceBound, asIntOf]; omega
    · have h1 : j ≤ cp := by omega
      simp [Instr.sliceBounds, f.ev hy, f.ev hy', Instr.sliceBound, asIntOf, h1, hij]
  refine stv f hw hd ?_ (fun a' f' => c a' _ _ f' (hr.sub rfl hij hj) sub_own)
  simp only [execOp, Instr.sliceAt, f.ev hx, Sem.run_bind, run_underlying hT, Result.andThen, Instr.slice, hb, run_sizeOf hE, Sem.run_pure, Option.map_none]
end
end Go.Proofs.Ytklfgpdfongaeaa
