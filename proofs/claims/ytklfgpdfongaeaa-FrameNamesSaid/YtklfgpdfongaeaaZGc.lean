import Derived.Test.YtklfgpdfongaeaaZGb
namespace Go.Proofs.Ytklfgpdfongaeaa
open Go Go.RowKit
set_option linter.unusedSimpArgs false
set_option linter.unusedVariables false
def Cont.is (o0 : Obj) : Cont where
  nil _ _ _ := False
  nilm _ h := h
  nilb h := h.elim
  rel _ _ _ o := o = o0
  mono _ h := h
def Ent.clo (gf : FuncId) (pin : List Ent) : Ent := ⟨fun S w v => ∃ vs, holdsL S w pin vs ∧ v = .func (.func gf) #[] vs.toArray, fun k h => by obtain ⟨vs, h1, h2⟩ := h; exact ⟨vs, h1.mono k, h2⟩⟩
def Since (V : Blk) (W W' : World) : Blk := fun b => V b ∨ (W.heap.size ≤ b ∧ b < W'.heap.size)
structure ItC {α : Type} (P : Program) (gf : FuncId) (R : Rep α) (pin : List Ent) (it : ∀ {σ : Type}, (α → σ → Option σ) → σ → Option σ) : Prop where
  run : ∀ {σ : Type} (Y : α → σ → Option σ) (J : Blk → σ → World → Prop) (V : Blk) (l : Nat) (vs : List Value) (w : World) (s s' : σ), it Y s = some s' →
    holdsL V w pin vs → J V s w → (∀ V s W, J V s W → ∀ b, V b → b < W.heap.size) → (∀ V s W W', J V s W → Ext W W' → J (Since V W W') s W') →
    (∀ V s s' x u W, Y x s = some s' → J V s W → (Ent.rd R x).holds V W u → YieldAt Fence.wide 0 P l #[u] W fun e W' => e = .returned (.bool true) ∧ J V s' W' ∧ Keep V W W') →
    Calls P gf (#[.func (.yield l) #[] #[]] ++ vs.toArray) w fun e W' => (∃ v, e = .returned v) ∧ ∃ V', J V' s' W'
abbrev ctxD (n : Nat) (H : Blk) (rin : Res) (w : World) (ds : List Deferred) : Ctx := ⟨n, fun b => b < w.heap.size ∧ ¬ Bof rin b, H, w, ds⟩
section
variable {ρ α σ : Type} {P : Program} {Γ : Ctx} {l L : Slots} {res : Res} {A : Asn} {Q : ρ → Exit → Act → World → Prop}
theorem Sta.react {a a' : Act} {w : World} {H : Blk} {n : Nat} {ds ds' : List Deferred} (ha : Sta (ctxD n H res w ds) l res a w) (hz : a'.tmps.size = n) (hd : a'.defers = ds') {L : Slots}
    (hs : ∀ t e, lk L t = some e → ∃ v, a'.tmps[t]? = some v ∧ e.holds (Shr H res w) w v) : Sta (ctxD n H res w ds') L res a' w :=
  ⟨hz, hd, hs, ha.conts, ha.excl, ha.own, Keep.rfl', fun b hb => hb.1, ha.hid⟩
structure RngJ (P : Program) (Γ : Ctx) (L : Slots) (a0 : Act) (H V : Blk) (lp D : Nat) (rec : Loop) (res : Res) (W : World) : Prop where
  st : Sta (ctxD Γ.n H res W Γ.ds) L res a0 W
  keep : Keep Γ.K Γ.w0 W
  own : ∀ r v c b, lr res r = some (v, c) → rblk v = some b → ¬ Γ.K b ∧ ¬ V b
  hl : W.heap[lp]? = some (.loop rec)
  hD : W.heap[D]? = some (.deferred (some []))
  vlt : ∀ b, V b → b < W.heap.size ∧ ¬ H b
theorem Sta.extR {a : Act} {w w' : World} {H : Blk} {n : Nat} {ds : List Deferred} (h : Sta (ctxD n H res w ds) l res a w) (k : Ext w w') : Sta (ctxD n H res w' ds) l res a w' := by
  have h2 := h.ext k
  exact ⟨h2.size, h2.defers, h2.slots, h2.conts, h2.excl, fun r v c h b hb hk => hk.2 ⟨r, v, c, h, hb⟩, Keep.rfl', fun b hb => hb.1, fun b hb => ⟨Nat.lt_of_lt_of_le (h.hid b hb).1 k.size, (h.hid b hb).2⟩⟩
theorem RngJ.ext {a0 : Act} {H V : Blk} {lp D : Nat} {rec : Loop} {W W' : World} (h : RngJ P Γ L a0 H V lp D rec res W) (hK : ∀ b, Γ.K b → b < Γ.w0.heap.size) (k : Ext W W') : RngJ P Γ L a0 H (Since V W W') lp D rec res W' :=
  ⟨h.st.extR k, h.keep.ext hK k, fun r v c b h1 h2 => ⟨(h.own r v c b h1 h2).1, fun hb => by
      rcases hb with hb | hb
      · exact (h.own r v c b h1 h2).2 hb
      · have := (h.st.conts r v c h1).lt h2; omega⟩, (k.block lp (Array.getElem?_eq_some_iff.1 h.hl).1).trans h.hl, (k.block D (Array.getElem?_eq_some_iff.1 h.hD).1).trans h.hD,
    fun b hb => by
      rcases hb with hb | hb
      · exact ⟨Nat.lt_of_lt_of_le (h.vlt b hb).1 k.size, (h.vlt b hb).2⟩
      · exact ⟨hb.2, fun hh => by have := (h.st.hid b hh).1; omega⟩⟩
def beginQ (lp : Nat) (P : Program) (body : Code) (Qb : ρ → Exit → Act → World → Prop) : ρ → Exit → Act → World → Prop := fun r e a w => e = .normal ∧ ∃ w₂, (Instr.beginRound lp).run P w = .ok () w₂ ∧ wpM (some lp) P body (Qb r) a w₂
def roundAs (n : Nat) (H : Blk) (lp : Nat) (rec : Loop) (W : World) (res0 : Res) (res' : (Nat → Value) → Res) : Asn := fun a w =>
  ∃ (res2 : Res) (W2 : World), Keep (fun b => b < W.heap.size ∧ ¬ Bof res0 b ∧ b ≠ lp) W W2 ∧ (∀ b, b < W.heap.size → ¬ Bof res0 b → ¬ Bof res2 b) ∧ W2.heap[lp]? = some (.loop { rec with state := .busy }) ∧ ∃ nv', Sta (ctx n H res2 W2) [] (res' nv') a w
def RoundOk (P : Program) (n : Nat) (R : Rep α) (p : Tmp) (L : Slots) (assign body : Code) (Bs : σ → (Nat → Value) → Res) (Y : α → σ → Option σ) : Prop :=
  ∀ (lp : Nat) (rec : Loop) (H : Blk) (W : World) (nv : Nat → Value) (x : α) (s : σ), rec.state = .ready → H lp → W.heap[lp]? = some (.loop rec) →
    G (some lp) P (Sta (ctx n H (Bs s nv) W) ((p, .rd R x) :: L) (Bs s nv)) assign (beginQ lp P body (midQ fun s' => roundAs n H lp rec W (Bs s nv) (Bs s'))) (Y x s)
theorem Sta.turn {a : Act} {w : World} {H : Blk} {n lp : Nat} {ds : List Deferred} {res0 : Res} {w0 : World} (h : Sta (ctxD n H res0 w0 ds) l res a w) (hlp : H lp) (o : Obj) (hK : ∀ b, H b → b < (w.putObj lp o).heap.size ∧ ¬ Bof res b) : Sta (ctxD n H res (w.putObj lp o) ds) l res a (w.putObj lp o) := by
  have hst : Stay (Shr H res w) (Shr H res (w.putObj lp o)) w (w.putObj lp o) := fun b hb => ⟨⟨by simpa using hb.1, hb.2⟩, World.putObj_heap_other (fun e => hb.2.2 (e ▸ hlp))⟩
  refine ⟨h.size, h.defers, fun t e ht => ?_, fun r v c hr => (h.conts r v c hr).mono hst (fun b hb => World.putObj_heap_other (fun e => (hK lp hlp).2 ⟨r, v, c, hr, e ▸ hb⟩)), h.excl, fun r v c h b hb hk => hk.2 ⟨r, v, c, h, hb⟩, Keep.rfl', fun b hb => hb.1, hK⟩
  obtain ⟨u, h1, h2⟩ := h.slots t e ht
  exact ⟨u, h1, e.mono hst h2⟩
theorem eBegin {n lp : Nat} {rec : Loop} {H : Blk} {W : World} {res0 res : Res} {τ : Type} {body : Code} {Bst : τ → Asn} {m : Option τ} (hr : rec.state = .ready) (hlp : H lp) (hl : W.heap[lp]? = some (.loop rec))
    (h : ∀ W2, Keep (fun b => b < W.heap.size ∧ ¬ Bof res0 b ∧ b ≠ lp) W W2 → (∀ b, b < W.heap.size → ¬ Bof res0 b → ¬ Bof res b) → W2.heap[lp]? = some (.loop { rec with state := .busy }) → G (some lp) P (Sta (ctx n H res W2) l res) body (midQ Bst) m) :
    GE (Sta (ctx n H res0 W) l res) .normal (beginQ lp P body (midQ Bst)) m := fun a w ha r hm => by
  have hin : lp < W.heap.size := (Array.getElem?_eq_some_iff.1 hl).1
  have hKl : (ctx n H res0 W).K lp := ha.hid lp hlp
  have hl2 : w.heap[lp]? = some (.loop rec) := (ha.keep.block lp hKl).trans hl
  have hin2 : lp < w.heap.size := (Array.getElem?_eq_some_iff.1 hl2).1
  have hno : ∀ b, H b → b < w.heap.size ∧ ¬ Bof res b := fun b hb => by
    have hk := ha.hid b hb
    exact ⟨Nat.lt_of_lt_of_le hk.1 ha.keep.size, fun ⟨r, v, c, h1, h2⟩ => ha.own r v c h1 b h2 hk⟩
  refine ⟨rfl, _, run_beginRound hl2 hr, ?_⟩
  refine h (w.putObj lp (.loop { rec with state := .busy })) ?_ (fun b h1 h2 ⟨r, v, c, h3, h4⟩ => ha.own r v c h3 b h4 ⟨h1, h2⟩) (World.putObj_heap_same hin2) a _ ?_ r hm
  · exact ⟨ha.keep.os, ha.keep.tape, ha.keep.output, by simpa using ha.keep.size, fun b hb => (World.putObj_heap_other hb.2.2).trans (ha.keep.block b ⟨hb.1, hb.2.1⟩)⟩
  · exact ha.turn hlp _ (fun b hb => by have := hno b hb; exact ⟨by simpa using this.1, this.2⟩)
theorem RngJ.round {n : Nat} {R : Rep α} {p : Tmp} {assign body : Code} {Bs : σ → (Nat → Value) → Res} {Y : α → σ → Option σ} (hok : RoundOk P n R p L assign body Bs Y) (hn : Γ.n = n) (hp : Nat.blt p n = true) {a0 : Act} {H V : Blk} {lp D : Nat} {rec : Loop} {W : World} {s s' : σ} {x : α} {u : Value} {fn : Nat} {nv : Nat → Value}
    (hrec : rec = { state := .ready, pending := none, fn, tmps := a0.tmps, params := #[p], assign, body, defers := D }) (hlp : H lp) (hDp : H D) (hne : D ≠ lp)
    (hK : ∀ b, Γ.K b → b ≠ lp ∧ b ≠ D) (hold : ∀ b, Γ.K b → b < Γ.w0.heap.size) (hJ : RngJ P Γ L a0 H V lp D rec (Bs s nv) W) (hu : (Ent.rd R x).holds (Shr H (Bs s nv) W) W u) (hY : Y x s = some s') :
    YieldAt Fence.wide 0 P lp #[u] W fun e W' => e = .returned (.bool true) ∧ (∃ nv', RngJ P Γ L a0 H V lp D rec (Bs s' nv') W') ∧ Keep V W W' := by
  subst hn
  have hy := run_yield (P := P) (args := #[u]) hJ.hl (by rw [hrec]; rfl)
  refine ⟨_, _, _, _, hy, roundIn_of_wpIn trivial ?_⟩
  have htm : (rec.params.zip #[u]).foldl (fun tmps (t, a) => tmps.setIfInBounds t a) rec.tmps = a0.tmps.setIfInBounds p u := by subst hrec; simp
  rw [htm, show rec.assign = assign by rw [hrec], show rec.body = body by rw [hrec]]
  have hst := hJ.st
  have hp' : p < Γ.n := Eq.mp Nat.blt_eq hp
  have hz : a0.tmps.size = Γ.n := hst.size
  have hslots : ∀ t e, lk ((p, .rd R x) :: L) t = some e → ∃ v, (a0.tmps.setIfInBounds p u)[t]? = some v ∧ e.holds (Shr H (Bs s nv) W) W v := fun t e ht => by
    rw [lk_cons] at ht
    by_cases hh : p = t
    · subst hh
      rw [if_pos rfl] at ht; cases ht
      exact ⟨u, by rw [Array.getElem?_setIfInBounds, if_pos rfl, if_pos (by rw [hz]; exact hp')], hu⟩
    · rw [if_neg hh] at ht
      obtain ⟨v, h1, h2⟩ := hst.slots t e ht
      exact ⟨v, by rw [Array.getElem?_setIfInBounds_ne hh]; exact h1, h2⟩
  have hround : Sta (ctx Γ.n H (Bs s nv) W) ((p, .rd R x) :: L) (Bs s nv) { tmps := a0.tmps.setIfInBounds p u, defers := [] } W := hst.react (ds' := []) (by simpa using hst.size) rfl hslots
  have hready : rec.state = .ready := by rw [hrec]
  have hb := hok lp rec H W nv x s hready hlp hJ.hl _ W hround s' hY (fun a w h => absurd h.1 (by simp))
  refine wpIn_mono hb ?_
  rintro e a₁ wa ⟨rfl, w₂, hrun, hbody⟩
  refine ⟨w₂, hrun, ?_⟩
  refine wpIn_mono (hbody (fun a w h => absurd h.1 (by simp))) ?_
  rintro e a₃ W3 ⟨rfl, res2, W2, hk2, hr2, hl2, nv', hS⟩
  have hkl : (ctx Γ.n H res2 W2).K lp := hS.hid lp hlp
  have hl3 : W3.heap[lp]? = some (.loop { rec with state := .busy }) := (hS.keep.block lp hkl).trans hl2
  have hend := run_endRound (P := P) none hl3
  have hback : (Obj.loop { { rec with state := .busy } with state := if (none : Option Code).isNone = true then .ready else .done, pending := none }) = .loop rec := by rw [hrec]; rfl
  rw [hback] at hend
  have hlp3 : lp < W3.heap.size := (Array.getElem?_eq_some_iff.1 hl3).1
  have hkeep : Keep (fun b => b < W.heap.size ∧ ¬ Bof (Bs s nv) b ∧ b ≠ lp) W (W3.putObj lp (.loop rec)) := by
    refine ⟨hS.keep.os.trans hk2.os, hS.keep.tape.trans hk2.tape, hS.keep.output.trans hk2.output, ?_, fun b hb => ?_⟩
    · have := Nat.le_trans hk2.size hS.keep.size; simpa using this
    · have h1 : (ctx Γ.n H res2 W2).K b := ⟨Nat.lt_of_lt_of_le hb.1 hk2.size, hr2 b hb.1 hb.2.1⟩
      exact (World.putObj_heap_other hb.2.2).trans ((hS.keep.block b h1).trans (hk2.block b hb))
  have hnB : ∀ b, b < W.heap.size → ¬ Bof (Bs s nv) b → ¬ Bof (Bs s' nv') b := fun b h1 h2 ⟨r, v, c, h3, h4⟩ => hS.own r v c h3 b h4 ⟨Nat.lt_of_lt_of_le h1 hk2.size, hr2 b h1 h2⟩
  have hKn : ∀ b, Γ.K b → b < W.heap.size ∧ ¬ Bof (Bs s nv) b := fun b hb => ⟨Nat.lt_of_lt_of_le (hold b hb) hJ.keep.size, fun ⟨r, v, c, h1, h2⟩ => (hJ.own r v c b h1 h2).1 hb⟩
  have hVn : ∀ b, V b → b < W.heap.size ∧ ¬ Bof (Bs s nv) b := fun b hb => ⟨(hJ.vlt b hb).1, fun ⟨r, v, c, h1, h2⟩ => (hJ.own r v c b h1 h2).2 hb⟩
  have hVl : ∀ b, V b → b ≠ lp := fun b hb e => (hJ.vlt b hb).2 (e ▸ hlp)
  have hDn : D < W.heap.size ∧ ¬ Bof (Bs s nv) D := hst.hid D hDp
  have hturn := hS.turn hlp (.loop rec) (fun b hb => by
    have hk := hS.hid b hb
    exact ⟨by have := Nat.lt_of_lt_of_le hk.1 hS.keep.size; simpa using this, fun ⟨r, v, c, h1, h2⟩ => hS.own r v c h1 b h2 hk⟩)
  have hstay : Stay (Shr H (Bs s nv) W) (Shr H (Bs s' nv') (W3.putObj lp (.loop rec))) W (W3.putObj lp (.loop rec)) := fun b hb => by
    have hbn : ¬ Bof (Bs s nv) b := fun ⟨r, v, c, h1, h2⟩ => hb.2.1 r v c h1 h2
    have hbl : b ≠ lp := fun e => hb.2.2 (e ▸ hlp)
    exact ⟨⟨Nat.lt_of_lt_of_le hb.1 hkeep.size, fun r v c h1 h2 => hnB b hb.1 hbn ⟨r, v, c, h1, h2⟩, hb.2.2⟩, hkeep.block b ⟨hb.1, hbn, hbl⟩⟩
  refine ⟨_, _, hend, rfl, ⟨nv', ?_⟩, ?_⟩
  · refine ⟨hturn.react hst.size hst.defers (fun t e ht => ?_), ?_, ?_, World.putObj_heap_same hlp3, ?_, ?_⟩
    · obtain ⟨v, h1, h2⟩ := hst.slots t e ht
      exact ⟨v, h1, e.mono hstay h2⟩
    · exact hJ.keep.tr hkeep (fun b hb => ⟨(hKn b hb).1, (hKn b hb).2, (hK b hb).1⟩)
    · intro r v c b h1 h2
      exact ⟨fun hb => hnB b (hKn b hb).1 (hKn b hb).2 ⟨r, v, c, h1, h2⟩, fun hb => hnB b (hVn b hb).1 (hVn b hb).2 ⟨r, v, c, h1, h2⟩⟩
    · exact (hkeep.block D ⟨hDn.1, hDn.2, hne⟩).trans hJ.hD
    · exact fun b hb => ⟨Nat.lt_of_lt_of_le (hVn b hb).1 hkeep.size, (hJ.vlt b hb).2⟩
  · exact ⟨hkeep.os, hkeep.tape, hkeep.output, hkeep.size, fun b hb => hkeep.block b ⟨(hVn b hb).1, (hVn b hb).2, hVl b hb⟩⟩
theorem eRound {n lp : Nat} {rec : Loop} {H : Blk} {W W2 : World} {res0 res2 : Res} {Bs : σ → (Nat → Value) → Res} {s' : σ} (vs : List Value) (ns : List Nat)
    (hk : Keep (fun b => b < W.heap.size ∧ ¬ Bof res0 b ∧ b ≠ lp) W W2) (ho : ∀ b, b < W.heap.size → ¬ Bof res0 b → ¬ Bof res2 b) (hl : W2.heap[lp]? = some (.loop { rec with state := .busy })) (hs : SubR res (Bs s' (nvl vs)) ns) :
    GE (Sta (ctx n H res2 W2) l res) .normal (midQ fun s' => roundAs n H lp rec W res0 (Bs s')) (some s') :=
  eMid fun a w ha => ⟨res2, W2, hk, ho, hl, nvl vs, ha.sub ns trivial hs⟩
def dmark (v : Value) : Deferred := { target := .collected ((rblk v).getD 0), args := #[] }
def Cont.mark : Cont := .is (.deferred (some []))
def rngAs (n : Nat) (H : Blk) (rin : Res) (w0 : World) (L : Slots) (rm : Nat) (res : (Nat → Value) → Res) : Asn := fun a w => ∃ (nv : Nat → Value) (d : Value), Sta (ctxD n H rin w0 [dmark d]) L ((rm, some (d, .mark)) :: res nv) a w
theorem gRange {n : Nat} {H : Blk} {rin : Res} {w0 : World} {ib : Nat} {t p : Tmp} {assign body : Code} {R : Rep α} {gf : FuncId} {pin : List Ent} {it : ∀ {σ : Type}, (α → σ → Option σ) → σ → Option σ} {Y : α → σ → Option σ} {s0 : σ}
    (Bs : σ → (Nat → Value) → Res) (L : Slots) (rm : Nat) (vs0 : List Value) (ns : List Nat) (hC : ItC P gf R pin it) (heg : ∀ args w, (callFunc gf args).run P w = .ok (.enter gf args) w) (ht : lk l t = some (.clo gf pin)) (hL : SubS l L) (hS : SubR res (Bs s0 (nvl vs0)) ns)
    (hp : Nat.blt p n = true) (hrm : ∀ s nv, lr (Bs s nv) rm = none) (hok : RoundOk P n R p L assign body Bs Y) :
    G none P (Sta (ctx n H rin w0) l res) (.block ib (.rangeFunc (.tmp t) #[p] assign body)) (midQ fun s' => rngAs n H rin w0 L rm (Bs s')) (it Y s0) := by
  refine gBlk ?_
  intro a w ha s' hit
  refine (wpIn_wide (n := 0)).1 (wpIn_rangeFunc ?_)
  intro fn hfn
  obtain ⟨vs, hvs, hev⟩ := ha.vl (x := .tmp t) (e := .clo gf pin) ht
  have hsub : Sta (ctx n H rin w0) L (Bs s0 (nvl vs0)) a w := ha.sub ns hL hS
  obtain ⟨rec, hrec⟩ : ∃ rec : Loop, rec = { state := .ready, pending := none, fn, tmps := a.tmps, params := #[p], assign, body, defers := w.heap.size } := ⟨_, rfl⟩
  obtain ⟨W1, hW1⟩ : ∃ W1, (w.alloc (.deferred (some []))).alloc (.loop rec) = W1 := ⟨_, rfl⟩
  have hL1 : W1.heap[w.heap.size + 1]? = some (.loop rec) := by
    rw [← hW1]; have := World.alloc_heap_new (w.alloc (.deferred (some []))) (.loop rec); rwa [World.size_alloc] at this
  have hK1 : W1.heap[w.heap.size]? = some (.deferred (some [])) := by
    rw [← hW1]; exact (Below.heap_alloc _ _ _ (by simp)).trans (World.alloc_heap_new w _)
  have hext : Ext w W1 := by
    rw [← hW1]
    have h2 := (((Below.refl _ w).alloc (Nat.le_refl _) (.deferred (some []))).alloc (by simp) (.loop rec))
    exact h2
  have hsz : W1.heap.size = w.heap.size + 2 := by rw [← hW1]; simp
  obtain ⟨H', hH'⟩ : ∃ H' : Blk, H' = fun b => H b ∨ b = w.heap.size ∨ b = w.heap.size + 1 := ⟨_, rfl⟩
  obtain ⟨V, hV⟩ : ∃ V : Blk, V = Shr H (Bs s0 (nvl vs0)) w := ⟨_, rfl⟩
  have hVlt : ∀ b, V b → b < w.heap.size := fun b hb => by rw [hV] at hb; exact hb.1
  have hold : ∀ b, (ctx n H rin w0).K b → b < w.heap.size := fun b hb => Nat.lt_of_lt_of_le hb.1 ha.keep.size
  have hst : Stay (Shr H (Bs s0 (nvl vs0)) w) (Shr H' (Bs s0 (nvl vs0)) W1) w W1 := fun b hb => ⟨⟨by have := hb.1; omega, hb.2.1, fun hh => by rw [hH'] at hh; rcases hh with hh | hh | hh; exact hb.2.2 hh; have := hb.1; omega; have := hb.1; omega⟩, hext.block b hb.1⟩
  have hown1 : ∀ r v c b, lr (Bs s0 (nvl vs0)) r = some (v, c) → rblk v = some b → b < w.heap.size := fun r v c b h1 h2 => (hsub.conts r v c h1).lt h2
  have hJ0 : RngJ P (ctx n H rin w0) L a H' V (w.heap.size + 1) w.heap.size rec (Bs s0 (nvl vs0)) W1 := by
    refine ⟨⟨hsub.size, hsub.defers, fun t e h => ?_, fun r v c h => ?_, hsub.excl, fun r v c h b hb hk => hk.2 ⟨r, v, c, h, hb⟩, Keep.rfl', fun b hb => hb.1, fun b hb => ?_⟩, ?_, ?_, hL1, hK1, fun b hb => ⟨by have := hVlt b hb; omega, fun hh => ?_⟩⟩
    · obtain ⟨v, h1, h2⟩ := hsub.slots t e h; exact ⟨v, h1, e.mono hst h2⟩
    · exact (hsub.conts r v c h).mono hst (fun b hb => hext.block b (hown1 r v c b h hb))
    · rw [hH'] at hb
      rcases hb with hb | hb | hb
      · have hk := hsub.hid b hb
        exact ⟨by have := hold b hk; omega, fun ⟨r, v, c, h1, h2⟩ => hsub.own r v c h1 b h2 hk⟩
      · subst hb; exact ⟨by omega, fun ⟨r, v, c, h1, h2⟩ => by have := hown1 r v c _ h1 h2; omega⟩
      · subst hb; exact ⟨by omega, fun ⟨r, v, c, h1, h2⟩ => by have := hown1 r v c _ h1 h2; omega⟩
    · exact hsub.keep.ext hsub.old hext
    · intro r v c b h1 h2
      exact ⟨hsub.own r v c h1 b h2, fun hb => by rw [hV] at hb; exact hb.2.1 r v c h1 h2⟩
    · have hb2 := hVlt b hb
      rw [hV] at hb
      rw [hH'] at hh
      rcases hh with hh | hh | hh
      · exact hb.2.2 hh
      · omega
      · omega
  have hpinV : holdsL V W1 pin vs := by
    refine hvs.mono (fun b hb => ⟨?_, hext.block b hb.1⟩)
    rw [hV]; exact (hS.stay b hb).1
  refine ⟨w.heap.size + 1, [{ target := .collected w.heap.size, args := #[] }], W1, { target := .fn (.func gf) vs.toArray, args := #[.func (.yield (w.heap.size + 1)) #[] #[]] }, W1, gf,
    #[.func (.yield (w.heap.size + 1)) #[] #[]] ++ vs.toArray, W1, ?_, ?_, fun _ _ => trivial, ?_, (fun h => by cases h), ?_⟩
  · rw [← hW1, hrec]; exact run_enterLoop_outer _ _ _ _ _
  · simp only [rangeCall, resolve, hev]
    simp [go_sem]
  · simp [invoke, go_sem, heg]
  · refine callsIn_wide.2 ?_
    refine (hC.run Y (fun V s W => ∃ nv, RngJ P (ctx n H rin w0) L a H' V (w.heap.size + 1) w.heap.size rec (Bs s nv) W) V (w.heap.size + 1) vs W1 s0 s' hit hpinV ⟨_, hJ0⟩ (fun V s W h b hb => by obtain ⟨nv, h⟩ := h; exact (h.vlt b hb).1) ?_ ?_).mono ?_
    · rintro V s W W' ⟨nv, h⟩ k
      exact ⟨nv, h.ext (fun b hb => hb.1) k⟩
    · rintro V s s2 x u W hY ⟨nv, h⟩ hu
      have hr := RngJ.round (Γ := ctx n H rin w0) (V := V) hok rfl hp hrec (by rw [hH']; exact .inr (.inr rfl)) (by rw [hH']; exact .inr (.inl rfl)) (by omega) (fun b hb => by have := hold b hb; exact ⟨by omega, by omega⟩) (fun b hb => hb.1) h
        ((Ent.rd R x).mono (S := V) (fun b hb => ⟨⟨(h.vlt b hb).1, fun r v c h1 h2 => (h.own r v c b h1 h2).2 hb, (h.vlt b hb).2⟩, rfl⟩) hu) hY
      exact hr
    · rintro e W' ⟨⟨v, rfl⟩, V', nv, hj⟩
      have hend := run_endLoop (P := P) hj.hl (by rw [hrec]; simp)
      have hpn : rec.pending = none := by rw [hrec]
      generalize hoo : Obj.loop { rec with state := .exhausted } = o at hend
      rw [hpn] at hend
      refine ⟨none, _, hend, rfl, nv, .pointer (some ⟨w.heap.size, 0, none⟩), ?_⟩
      have hturn := hj.st.turn (by rw [hH']; exact .inr (.inr rfl)) o (fun b hb => by
        have := hj.st.hid b hb
        exact ⟨by simpa using this.1, this.2⟩)
      have hDn := hj.st.hid w.heap.size (by rw [hH']; exact .inr (.inl rfl))
      have hlr : ∀ r v c, lr ((rm, some (Value.pointer (some ⟨w.heap.size, 0, none⟩), Cont.mark)) :: Bs s' nv) r = some (v, c) → (r = rm ∧ v = .pointer (some ⟨w.heap.size, 0, none⟩) ∧ c = .mark) ∨ (r ≠ rm ∧ lr (Bs s' nv) r = some (v, c)) := fun r v c h => by
        rw [lr_cons] at h
        split at h
        · rename_i hh; cases h; exact .inl ⟨hh.symm, rfl, rfl⟩
        · rename_i hh; exact .inr ⟨fun e => hh e.symm, h⟩
      have hstay : Stay (Shr H' (Bs s' nv) (W'.putObj (w.heap.size + 1) o)) (Shr H ((rm, some (Value.pointer (some ⟨w.heap.size, 0, none⟩), Cont.mark)) :: Bs s' nv) (W'.putObj (w.heap.size + 1) o)) (W'.putObj (w.heap.size + 1) o) (W'.putObj (w.heap.size + 1) o) := fun b hb => ⟨⟨hb.1, fun r v c h1 h2 => by
        rcases hlr r v c h1 with ⟨_, rfl, _⟩ | ⟨_, h3⟩
        · simp only [rblk, Option.some.injEq] at h2
          exact hb.2.2 (by rw [hH']; exact .inr (.inl h2.symm))
        · exact hb.2.1 r v c h3 h2, fun hh => hb.2.2 (by rw [hH']; exact .inl hh)⟩, rfl⟩
      have hD2 : (W'.putObj (w.heap.size + 1) o).heap[w.heap.size]? = some (.deferred (some [])) := (World.putObj_heap_other (by omega)).trans hj.hD
      refine ⟨hsub.size, by simp [dmark, rblk, hsub.defers], fun t e h => ?_, fun r v c h => ?_, fun r v c r2 v2 c2 h h' hne b hb hb2 => ?_, fun r v c h b hb hk => ?_, ?_, fun b hb => hb.1, hsub.hid⟩
      · obtain ⟨v, h1, h2⟩ := hturn.slots t e h; exact ⟨v, h1, e.mono hstay h2⟩
      · rcases hlr r v c h with ⟨_, rfl, rfl⟩ | ⟨_, h3⟩
        · exact .inr ⟨w.heap.size, _, rfl, hD2, rfl⟩
        · exact (hturn.conts r v c h3).mono hstay (fun _ _ => rfl)
      · rcases hlr r v c h with ⟨e1, rfl, _⟩ | ⟨_, h3⟩ <;> rcases hlr r2 v2 c2 h' with ⟨e2, rfl, _⟩ | ⟨_, h4⟩
        · exact hne (e1.trans e2.symm)
        · simp only [rblk, Option.some.injEq] at hb; subst hb; exact hDn.2 ⟨_, _, _, h4, hb2⟩
        · simp only [rblk, Option.some.injEq] at hb2; subst hb2; exact hDn.2 ⟨_, _, _, h3, hb⟩
        · exact hturn.excl r v c r2 v2 c2 h3 h4 hne b hb hb2
      · rcases hlr r v c h with ⟨_, rfl, _⟩ | ⟨_, h3⟩
        · simp only [rblk, Option.some.injEq] at hb; subst hb; have := hold _ hk; omega
        · exact (hj.own r v c b h3 hb).1 hk
      · exact ⟨hj.keep.os, hj.keep.tape, hj.keep.output, by have := hj.keep.size; simpa using this, fun b hb => (World.putObj_heap_other (by have := hold b hb; omega)).trans (hj.keep.block b hb)⟩
def endM {ρ : Type} (P : Program) (fn : Func) (H : Blk) (rin : Res) (q : ρ → (Nat → Value) → Post) (w : World) : ρ → Exit → Act → World → Prop := fun r => bodyPostM Fence.wide 0 P fn (endR H rin (q r) w)
theorem specM {ρ : Type} {P : Program} {f : FuncId} {fn : Func} {c : Code} {pin : List Ent} {rin : Res} {m : Option ρ} {q : ρ → (Nat → Value) → Post} (n : Nat) (hf : P.funcs[f]? = some fn) (hb : fn.body = some c) (hn : fn.ntmps = n) (hl : Nat.ble pin.length n = true)
    (h : ∀ H w, G none P (Sta (ctx n H rin w) (argS 0 pin) rin) c (endM P fn H rin q w) m) : Spec P f pin rin m q := by
  intro r hr H vs w hvs hR
  have hl : pin.length ≤ n := Nat.le_of_ble_eq_true hl
  have hlen := hvs.length
  subst hn
  refine (callsIn_wide (n := 0)).1 (callsIn_of_wp_marks hf hb trivial (wpIn_wide.2 (h H w _ w ?_ r hr)))
  refine ⟨by simp; omega, rfl, fun t e ht => ?_, hR.conts, hR.excl, fun r v c h1 b h2 h3 => h3.2 ⟨r, v, c, h1, h2⟩, Keep.rfl', fun b hb => hb.1, fun b hb => hR.hid b hb⟩
  obtain ⟨-, v, h1, h2⟩ := argS_get hvs ht
  refine ⟨v, ?_, h2⟩
  simp only [Nat.sub_zero] at h1
  have hlt : t < vs.length := (List.getElem?_eq_some_iff.1 h1).1
  rw [Array.getElem?_append_left (by simpa using hlt)]
  simpa using h1
theorem eRet0 {ρ : Type} {P : Program} {fn : Func} {n : Nat} {H : Blk} {rin : Res} {w0 : World} {q : ρ → (Nat → Value) → Post} {r : ρ} {l : Slots} {res : Res} {rs : List ResultVar} (vs : List Value) (ns : List Nat) (hr : fn.results = rs.toArray) (h : ResE P l res rs (q r (nvl vs)).ret) (hs : SubR res (q r (nvl vs)).res ns) :
    GE (Sta (ctx n H rin w0) l res) .ret (endM P fn H rin q w0) (some r) := fun a w ha r' hr' => by
  obtain ⟨hd, h2⟩ := eRet vs ns hr h hs a w ha r' hr'
  show LeavesInM Fence.wide 0 P fn a.tmps _ a.defers .returning w
  rw [hd]; exact h2
theorem dmark_target (d : Value) : (dmark d).target = .collected ((rblk d).getD 0) := rfl
theorem Sta.close {n : Nat} {H : Blk} {rin : Res} {w0 : World} {a : Act} {w : World} {d : Value} (rm : Nat) (h : Sta (ctxD n H rin w0 [dmark d]) l res a w) (hr : lr res rm = some (d, .mark)) : ∃ w', (Instr.takeDeferred ((rblk d).getD 0)).run P w = .ok [] w' ∧ Sta (ctx n H rin w0) l ((rm, none) :: res) { a with defers := [] } w' := by
  rcases h.conts rm d _ hr with h0 | ⟨b, o, hb, ho, hoo⟩
  · exact h0.elim
  · have hoo : o = .deferred (some []) := hoo
    subst hoo
    refine ⟨_, by rw [hb]; exact run_takeDeferred ho, ?_⟩
    simp only [Option.getD_some]
    have hlr : ∀ r v c, lr ((rm, none) :: res) r = some (v, c) → r ≠ rm ∧ lr res r = some (v, c) := fun r v c h => by
      rw [lr_cons] at h
      split at h
      · cases h
      · rename_i hh; exact ⟨fun e => hh e.symm, h⟩
    have hoth : ∀ c, c ≠ b → (w.putObj b (.deferred none)).heap[c]? = w.heap[c]? := fun c hc => World.putObj_heap_other hc
    have hstay : Stay (Shr H res w) (Shr H ((rm, none) :: res) (w.putObj b (.deferred none))) w (w.putObj b (.deferred none)) := fun c hc => ⟨⟨by simpa using hc.1, fun r v c' h1 => hc.2.1 r v c' (hlr r v c' h1).2, hc.2.2⟩, hoth c (fun e => hc.2.1 rm d _ hr (e ▸ hb))⟩
    have hbK := h.own rm d _ hr b hb
    refine ⟨h.size, rfl, fun t e ht => ?_, fun r v c h1 => ?_, fun r v c r2 v2 c2 h1 h2 hne => h.excl r v c r2 v2 c2 (hlr r v c h1).2 (hlr r2 v2 c2 h2).2 hne, fun r v c h1 => h.own r v c (hlr r v c h1).2, ⟨h.keep.os, h.keep.tape, h.keep.output, by simpa using h.keep.size, fun c hc => (hoth c (fun e => hbK (e ▸ hc))).trans (h.keep.block c hc)⟩, h.old, h.hid⟩
    · obtain ⟨v, h1, h2⟩ := h.slots t e ht; exact ⟨v, h1, e.mono hstay h2⟩
    · obtain ⟨hne, h2⟩ := hlr r v c h1
      exact (h.conts r v c h2).mono hstay (fun c' hc' => hoth c' (fun e => h.excl r v c rm d _ h2 hr hne b (e ▸ hc') hb))
theorem eRetM {ρ : Type} {P : Program} {fn : Func} {n : Nat} {H : Blk} {rin : Res} {w0 : World} {q : ρ → (Nat → Value) → Post} {r : ρ} {l : Slots} {res : Res} {rs : List ResultVar} {d : Value} (rm : Nat) (vs : List Value) (ns : List Nat) (hm : lr res rm = some (d, .mark)) (hr : fn.results = rs.toArray) (h : ResE P l ((rm, none) :: res) rs (q r (nvl vs)).ret) (hs : SubR ((rm, none) :: res) (q r (nvl vs)).res ns) :
    GE (Sta (ctxD n H rin w0 [dmark d]) l res) .ret (endM P fn H rin q w0) (some r) := fun a w ha r' hr' => by
  obtain ⟨w', h1, h2⟩ := ha.close (P := P) rm hm
  obtain ⟨-, h3⟩ := eRet vs ns hr h hs _ w' h2 r' hr'
  show LeavesInM Fence.wide 0 P fn a.tmps _ a.defers .returning w
  rw [ha.defers]
  exact ⟨by simp, .inl ⟨_, w', dmark_target d, h1, h3⟩⟩
end
end Go.Proofs.Ytklfgpdfongaeaa
namespace Go.Proofs.Ytklfgpdfongaeaa
open Go Go.RowKit
set_option linter.unusedSimpArgs false
set_option linter.unusedVariables false
section
variable {P : Program} {ops : Array Oper} {Q : Exit → Act → World → Prop}
theorem op_wide {o : Oper} {a : Act} {w : World} {Q0 : Exit → Act → World → Prop} {next next' : Act → World → Prop} (hn : ∀ a w, next a w → next' a w) (hq : ∀ e a w, Q0 e a w → Q e a w) (h : o.wp P a w next Q0) : o.wpIn Fence.wide 0 P a w next' Q := by
  refine ⟨fun _ _ => trivial, ?_⟩
  have e : o.semAt Fence.wide.round a.eval = execOp a.eval o := rfl
  rw [e]
  unfold Oper.wp at h
  generalize (execOp a.eval o).run P w = r at h ⊢
  cases r with
  | ok x w' =>
    cases x with
    | enter f args =>
      refine ⟨fun hh => (by cases hh), callsIn_wide.2 ?_⟩
      have h : Calls P f args w' _ := h
      refine h.mono ?_
      intro e w'' he
      cases e with
      | returned v => exact hn _ _ he
      | panicked ch => exact hq _ _ _ he
      | outgrown => obtain ⟨a1, w1, h1⟩ := he; exact ⟨a1, w1, hq _ _ _ h1⟩
    | row r args => exact ⟨fun hh => (by cases hh), fun c cs _ => let ⟨v, w'', r, st⟩ := h c cs; ⟨v, w'', hn _ _ r, stepsIn_wide.2 st⟩⟩
    | round l f tmps assign body => exact False.elim h
    | value v => exact hn _ _ h
    | skip => exact hn _ _ h
    | defer d => exact hn _ _ h
    | _ => exact False.elim h
  | halt x w' => cases x <;> first | exact hq _ _ _ h | exact h
def restX (P : Program) (ops : Array Oper) (Q : Exit → Act → World → Prop) (os : List Oper) (e : Exit) (a : Act) (w : World) : Prop := e = .normal ∧ wpListIn Fence.wide 0 P ops Q os a w
theorem list_then {os2 : List Oper} : ∀ (os1 : List Oper) (a : Act) (w : World), wpList P ops (restX P ops Q os2) os1 a w → wpListIn Fence.wide 0 P ops Q (os1 ++ os2) a w
  | [], _, _, h => h.2
  | o :: os, a, w, h => by
    unfold wpList at h
    simp only [List.cons_append]
    unfold wpListIn
    have hno : ∀ a w, ¬ restX P ops Q os2 .outgrown a w := fun a w hh => absurd hh.1 (by simp)
    by_cases hw : Region.wanted o (yielded ops a.tmps) = true
    · rw [if_pos hw] at h ⊢
      rcases h with h | ⟨-, a', w', hh⟩
      · have h2 : o.wpIn Fence.wide 0 P a w (wpListIn Fence.wide 0 P ops Q (os ++ os2)) (restX P ops Q os2) := op_wide (fun a w => list_then os a w) (fun _ _ _ h => h) h
        unfold Oper.wpIn at h2 ⊢
        refine ⟨h2.1, ?_⟩
        have h2 := h2.2
        generalize (o.semAt Fence.wide.round a.eval).run P w = r at h2 ⊢
        have hx : ∀ ch, ¬ restX P ops Q os2 (.panic ch) a w := fun ch hh => absurd hh.1 (by simp)
        cases r with
        | ok x w' =>
          cases x with
          | enter f args => exact ⟨h2.1, CallsIn.mono h2.2 (fun e w'' he => by
              cases e with
              | returned v => exact he
              | panicked ch => exact absurd he.1 (by simp)
              | outgrown => obtain ⟨a1, w1, h1⟩ := he; exact absurd h1.1 (by simp))⟩
          | row r args => exact h2
          | round l f tmps assign body => exact ⟨h2.1, RoundIn.mono h2.2 (fun e w'' he => by
              cases e with
              | returned v => exact he
              | panicked ch => exact absurd he.1 (by simp)
              | outgrown => obtain ⟨a1, w1, h1⟩ := he; exact absurd h1.1 (by simp))⟩
          | value v => exact h2
          | skip => exact h2
          | defer d => exact h2
          | _ => exact h2
        | halt x w' => cases x <;> first | exact absurd h2.1 (by simp) | exact h2
      · exact absurd hh (hno _ _)
    · rw [if_neg hw] at h ⊢
      exact ⟨fun _ _ => trivial, list_then os _ w h⟩
theorem list_wide (ho : ∀ a w, ¬ Q .outgrown a w) : ∀ (os : List Oper) (a : Act) (w : World), wpList P ops Q os a w → wpListIn Fence.wide 0 P ops Q os a w
  | [], _, _, h => h
  | o :: os, a, w, h => by
    unfold wpList at h
    unfold wpListIn
    by_cases hw : Region.wanted o (yielded ops a.tmps) = true
    · rw [if_pos hw] at h ⊢
      rcases h with h | ⟨-, a', w', hh⟩
      · exact op_wide (fun a w => list_wide ho os a w) (fun _ _ _ h => h) h
      · exact absurd hh (ho _ _)
    · rw [if_neg hw] at h ⊢
      exact ⟨fun _ _ => trivial, list_wide ho os _ w h⟩
end
structure IEnv (P : Program) {α : Type} (R : Rep α) (σ : Type) where
  Y : α → σ → Option σ
  J : Blk → σ → World → Prop
  l : Nat
  hV : ∀ V s W, J V s W → ∀ b, V b → b < W.heap.size
  hext : ∀ V s W W', J V s W → Ext W W' → J (Since V W W') s W'
  round : ∀ V s s' x u W, Y x s = some s' → J V s W → (Ent.rd R x).holds V W u → YieldAt Fence.wide 0 P l #[u] W fun e W' => e = .returned (.bool true) ∧ J V s' W' ∧ Keep V W W'
section
variable {P : Program} {α σ ρ : Type} {R : Rep α}
abbrev ctxI (n : Nat) (V : Blk) (W : World) : Ctx := ⟨n, fun b => b < W.heap.size, fun b => b < W.heap.size ∧ ¬ V b, W, []⟩
def endI (P : Program) (fn : Func) (E : IEnv P R σ) : σ → Exit → Act → World → Prop := fun s' => bodyPost P fn (fun e W' => (∃ v, e = .returned v) ∧ ∃ V, E.J V s' W')
def iAs (E : IEnv P R σ) (n : Nat) (l : Slots) (s : σ) : Asn := fun a w => ∃ V W, E.J V s W ∧ Sta (ctxI n V W) l [] a w
theorem gExI {E : IEnv P R σ} {n : Nat} {l : Slots} {s : σ} {c : Code} {Q : ρ → Exit → Act → World → Prop} {m : Option ρ} (h : ∀ V W, E.J V s W → G none P (Sta (ctxI n V W) l []) c Q m) : G none P (iAs E n l s) c Q m := fun a w ⟨V, W, h1, h2⟩ => h V W h1 a w h2
theorem sinceI {V : Blk} {W w : World} {n b : Nat} (h : Shr (ctxI n V W).H [] w b) : Since V W w b := by
  by_cases hb : b < W.heap.size
  · exact .inl (Classical.byContradiction fun hv => h.2.2 ⟨hb, hv⟩)
  · exact .inr ⟨by omega, h.1⟩
theorem specI {gf : FuncId} {fn : Func} {c : Code} {pin : List Ent} {it : ∀ {σ : Type}, (α → σ → Option σ) → σ → Option σ} (n : Nat) (hf : P.funcs[gf]? = some fn) (hb : fn.body = some c) (hn : fn.ntmps = n) (hl : Nat.ble (pin.length + 1) n = true)
    (h : ∀ {σ : Type} (E : IEnv P R σ) (V : Blk) (W : World) (s : σ), E.J V s W → G none P (Sta (ctxI n V W) (argS 0 (.val (.func (.yield E.l) #[] #[]) :: pin)) []) c (endI P fn E) (it E.Y s)) : ItC P gf R pin it := by
  refine ⟨?_⟩
  intro σ Y J V l vs w s s' hit hvs hJ hV hext hround
  have hl : pin.length + 1 ≤ n := Nat.le_of_ble_eq_true hl
  have hlen := hvs.length
  subst hn
  obtain ⟨E, hE⟩ : ∃ E : IEnv P R σ, E = ⟨Y, J, l, hV, hext, hround⟩ := ⟨_, rfl⟩
  have hat : E.J V s w := by rw [hE]; exact hJ
  have hw := h E V w s hat
  have e1 : it E.Y s = some s' := by rw [hE]; exact hit
  have hargs : (#[Value.func (.yield l) #[] #[]] ++ vs.toArray) = ((Value.func (.yield l) #[] #[] :: vs).toArray) := by simp
  rw [hargs]
  have hcall : Calls P gf (Value.func (.yield l) #[] #[] :: vs).toArray w (fun e W' => (∃ v, e = .returned v) ∧ ∃ V', E.J V' s' W') := by
    refine calls_of_wp hf hb (hw _ w ?_ s' e1)
    have hvs2 : holdsL (Shr (ctxI fn.ntmps V w).H [] w) w (.val (.func (.yield E.l) #[] #[]) :: pin) (Value.func (.yield l) #[] #[] :: vs) := by
      refine ⟨⟨by rw [hE], rfl⟩, hvs.mono (fun b hb => ⟨⟨hV _ _ _ hJ b hb, fun r v c h => by (cases h), fun hh => hh.2 hb⟩, rfl⟩)⟩
    refine ⟨by simp; omega, rfl, fun t e ht => ?_, fun r v c h => by (cases h), fun r v c r' v' c' h => by (cases h), fun r v c h => by (cases h), Keep.rfl', fun b hb => hb, fun b hb => hb.1⟩
    obtain ⟨-, v, h1, h2⟩ := argS_get hvs2 ht
    refine ⟨v, ?_, h2⟩
    simp only [Nat.sub_zero] at h1
    have hlt : t < (Value.func (.yield l) #[] #[] :: vs).length := (List.getElem?_eq_some_iff.1 h1).1
    rw [Array.getElem?_append_left (by simpa using hlt)]
    simpa using h1
  have hEJ : E.J = J := by rw [hE]
  rw [hEJ] at hcall
  exact hcall
variable {E : IEnv P R σ} {V : Blk} {W : World} {l : Slots} {res : Res} {n : Nat} {s : σ}
theorem Sta.atI {a : Act} {w : World} (h : Sta (ctxI n V W) l res a w) : Ext W w := by
  have k := h.keep
  exact ⟨k.os, k.tape, k.output, k.size, fun b hb => k.block b hb⟩
theorem eEndI {fn : Func} (hat : E.J V s W) (hr : fn.results = #[]) : GE (Sta (ctxI n V W) l res) .normal (endI P fn E) (some s) := fun a w ha r' hr' => by
  cases hr'
  exact bodyPost_end (v := .tuple #[]) (by rw [results_none hr]) ha.defers ⟨⟨_, rfl⟩, _, E.hext _ _ _ _ hat ha.atI⟩
def OutF {ρ : Type} (Q : ρ → Exit → Act → World → Prop) : Prop := ∀ r a w, ¬ Q r .outgrown a w
variable {Q : ρ → Exit → Act → World → Prop}
theorem out_then {ro : Option Nat} {y : Code} (h : OutF Q) : OutF (thenQ ro P y Q) := h
theorem out_blk {i : Nat} (h : OutF Q) : OutF (blkQ i Q) := h
theorem out_mid {τ : Type} {Bs : τ → Asn} : OutF (midQ Bs) := fun r a w h => absurd h.1 (by simp)
theorem out_midR {τ : Type} {Bs : τ → Asn} (h : OutF Q) : OutF (midR Bs Q) := fun r a w hh => by
  cases r with
  | inl r => exact h _ _ _ hh.2
  | inr t => exact absurd hh.1 (by simp)
theorem out_loop {β τ : Type} {i : Nat} {As : τ → Asn} {M : β → Exit → Act → World → Prop} (h : OutF M) : OutF (loopQ i As M) := fun r a w hh => by
  cases r with
  | inl r => exact h _ _ _ hh.2
  | inr t => exact absurd hh.1 (by simp)
theorem out_endI {fn : Func} : OutF (endI P fn E) := fun r a w h => by
  obtain ⟨⟨v, h⟩, -⟩ : ((∃ v, Ending.outgrown = .returned v) ∧ ∃ V, E.J V r w) := h
  cases h
class OutC {ρ : Type} (Q : ρ → Exit → Act → World → Prop) : Prop where
  out : OutF Q
instance outc_then {ro : Option Nat} {y : Code} [h : OutC Q] : OutC (thenQ ro P y Q) := ⟨out_then h.out⟩
instance outc_blk {i : Nat} [h : OutC Q] : OutC (blkQ i Q) := ⟨out_blk h.out⟩
instance outc_mid {τ : Type} {Bs : τ → Asn} : OutC (midQ Bs) := ⟨out_mid⟩
instance outc_midR {τ : Type} {Bs : τ → Asn} [h : OutC Q] : OutC (midR Bs Q) := ⟨out_midR h.out⟩
instance outc_loop {β τ : Type} {i : Nat} {As : τ → Asn} {M : β → Exit → Act → World → Prop} [h : OutC M] : OutC (loopQ i As M) := ⟨out_loop h.out⟩
instance outc_endI {fn : Func} : OutC (endI P fn E) := ⟨out_endI⟩
def restQ (P : Program) (ops : List Oper) (os : List Oper) (Q : ρ → Exit → Act → World → Prop) : ρ → Exit → Act → World → Prop := fun r => restX P ops.toArray (Q r) os
theorem gRegY {A : Asn} {m : Option ρ} {id : Nat} {os : List Oper} (k : Nat) (h : GL P os A (os.take k) (restQ P os (os.drop k) Q) m) : G none P A (.region id os.toArray false) Q m := fun a w ha r hr => by
  refine (wpIn_wide (n := 0)).1 (wpIn_region_lit ?_)
  have := list_then (os2 := os.drop k) (os.take k) a w (h a w ha r hr)
  rwa [List.take_append_drop] at this
theorem eYield {κ : σ → Option ρ} {ops rest : List Oper} {d : Tmp} {t xo : Operand} {T ty : TypeId} {pos : String} {after : Array Edge} {x : α} (hat : E.J V s W)
    (ht : opE l t = some (.val (.func (.yield E.l) #[] #[]))) (hx : opE l xo = some (.rd R x)) (hd : Nat.blt d n = true)
    (k : ∀ s' V' W', E.J V' s' W' → GL P ops (Sta (ctxI n V' W') ((d, .rd boolR true) :: l) []) rest Q (κ s')) [hoc : OutC Q] :
    GE (Sta (ctxI n V W) l []) .normal (restQ P ops (⟨some d, .call ⟨.value t, #[xo], #[T]⟩, ty, pos, after, none⟩ :: rest) Q) (E.Y x s >>= κ) := fun a w ha r hr => by
  cases hy : E.Y x s with
  | none => rw [hy] at hr; cases hr
  | some s' =>
    rw [hy] at hr
    have hr : κ s' = some r := hr
    refine ⟨rfl, ?_⟩
    unfold wpListIn
    rw [if_pos (by rfl)]
    refine ⟨fun _ _ => trivial, ?_⟩
    obtain ⟨fn, tmps, assign, body, hyr, hri⟩ := E.round _ _ _ _ (a.eval xo) _ hy (E.hext _ _ _ _ hat ha.atI) ((Ent.rd R x).mono (fun b hb => ⟨sinceI hb, rfl⟩) (ha.vl hx))
    have hrun : (execOp a.eval ⟨some d, .call ⟨.value t, #[xo], #[T]⟩, ty, pos, after, none⟩).run P w = .ok (.round E.l fn tmps assign body) w := by
      have e1 : a.eval t = .func (.yield E.l) #[] #[] := (ha.vl ht).1
      simp [execOp, resolve, e1, Deferred.ofValue, invoke, hyr]
    have e : (Oper.semAt Fence.wide.round a.eval ⟨some d, .call ⟨.value t, #[xo], #[T]⟩, ty, pos, after, none⟩) = execOp a.eval ⟨some d, .call ⟨.value t, #[xo], #[T]⟩, ty, pos, after, none⟩ := rfl
    rw [e, hrun]
    refine ⟨fun hh => by (cases hh), hri.mono ?_⟩
    rintro e' W' ⟨rfl, hJ', hK⟩
    refine list_wide (fun a w => hoc.out r a w) _ _ _ (k s' _ _ hJ' _ W' ?_ r hr)
    have hst : Stay (Shr (ctxI n V W).H [] w) (Shr (ctxI n (Since V W w) W').H [] W') w W' := fun b hb => ⟨⟨Nat.lt_of_lt_of_le hb.1 hK.size, fun r v c h => by (cases h), fun hh => hh.2 (sinceI hb)⟩, hK.block b (sinceI hb)⟩
    have h0 : Sta (ctxI n (Since V W w) W') l [] a W' := ⟨ha.size, ha.defers, fun t e h => by obtain ⟨v, h1, h2⟩ := ha.slots t e h; exact ⟨v, h1, e.mono hst h2⟩, fun r v c h => by (cases h), fun r v c r' v' c' h => by (cases h), fun r v c h => by (cases h), Keep.rfl', fun b hb => hb, fun b hb => hb.1⟩
    exact h0.put hd ⟨_, rfl, rfl⟩
end
theorem Rd.top {w : World} {p : Option Addr} {m c sz j : Nat} {xs : List Value} (h : Rd w (.slice p m c) m sz xs) (hj : j ≤ m) : Rd w (.slice p j j) j sz (xs.take (j * sz)) := by
  have hl := h.1
  have : j * sz ≤ m * sz := Nat.mul_le_mul_right _ hj
  refine ⟨by rw [List.length_take, hl]; exact Nat.min_eq_left this, ?_⟩
  rcases h.2 with ⟨hv, rfl⟩ | ⟨b, o, sp, cap, hv, h2, h3, hsp, h4⟩
  · simp only [Value.slice.injEq] at hv
    have : j = 0 := by omega
    subst j
    exact .inl ⟨by rw [hv.1], rfl⟩
  · simp only [Value.slice.injEq, true_and] at hv
    obtain ⟨rfl, rfl⟩ := hv
    refine .inr ⟨b, o, sp, j, rfl, Nat.le_refl _, by omega, hsp.imp (fun e => by simp [e]) id, fun q u hu => h4 q u ?_⟩
    rw [List.getElem?_take] at hu
    split at hu
    · exact hu
    · cases hu
section
variable {C : World → World → Prop} {P : Program} {Γ : Ctx} {l : Slots} {res : Res} {d : Tmp} {ty : TypeId} {pos : String} {after : Array Edge} {g : Option (Nat × Bool)}
theorem cut3 {α : Type} {R : Rep α} {b b' : List α} {x lo hi mx : Operand} {i j : Int} {T e : TypeId} {z : Value} {by_ : Nat} (hx : opE l x = some (.rd (sliceR R) b)) (hlo : opE l lo = some (.rd i64R i)) (hhi : opE l hi = some (.rd i64R j)) (hmx : opE l mx = some (.rd i64R j)) (hb : cut b i j = some b')
    (hT : P.underlying T = some (.slice e)) (hE : TI P e z R.sz by_) : Run C P Γ l res ⟨some d, .slice T x (some lo) (some hi) (some mx), ty, pos, after, g⟩ (.rd (sliceR R) b') := fun a w ha => by
  obtain ⟨h1, h2, h3, rfl⟩ := cut_some hb
  obtain ⟨cs, ⟨p, c, xs, k1, k2, k3, k4⟩, k5⟩ := ha.vl hx
  subst k1
  have k5 : a.eval x = .slice p b.length c := k5
  have hcap : b.length ≤ c := by
    rcases k2.2 with ⟨hv, h0⟩ | ⟨_, o, sp, cap, hv, g1, _⟩
    · omega
    · simp only [Value.slice.injEq, true_and] at hv; omega
  have hlen : ((b.drop i.toNat).take (j.toNat - i.toNat)).length = j.toNat - i.toNat := by simp; omega
  have htop := k2.top (j := j.toNat) (by omega)
  have hsub := htop.sub rfl (i := i.toNat) (j := j.toNat) (by omega) (Nat.le_refl _)
  have hlst : (b.drop i.toNat).take (j.toNat - i.toNat) = ((b.take j.toNat).drop i.toNat).take (j.toNat - i.toNat) := by
    rw [List.drop_take, List.take_take]; simp
  have elo : a.eval lo = .int .i64 i := rd_num (ha.vl hlo)
  have ehi : a.eval hi = .int .i64 j := rd_num (ha.vl hhi)
  have emx : a.eval mx = .int .i64 j := rd_num (ha.vl hmx)
  refine ⟨.slice (if j.toNat = i.toNat then p else p.map (·.add (i.toNat * R.sz))) ((b.drop i.toNat).take (j.toNat - i.toNat)).length (j.toNat - i.toNat), fun w' _ => ?_, _, ⟨_, _, _, rfl, by rw [hlen]; exact hsub, ?_, fun hne bb hbb => ?_⟩, rfl⟩
  · obtain ⟨i', rfl⟩ : ∃ i' : Nat, i = (i' : Int) := ⟨i.toNat, by omega⟩
    obtain ⟨j', rfl⟩ : ∃ j' : Nat, j = (j' : Int) := ⟨j.toNat, by omega⟩
    have e2 : i' ≤ j' := by omega
    have e3 : j' ≤ c := by omega
    rw [hlen]
    have hb : (Instr.sliceBounds true b.length c (some (a.eval lo)) (some (a.eval hi)) (some (a.eval mx))).run P w' = .ok (i', j', j') w' := by
      simp [Instr.sliceBounds, elo, ehi, emx, Instr.sliceBound, asIntOf, e2, e3]
    simp only [execOp, Instr.sliceAt, k5, Sem.run_bind, run_underlying hT, Result.andThen, Instr.slice, Option.map_some, hb, run_sizeOf hE, Sem.run_pure, Int.toNat_natCast]
  · rw [hlst]
    exact ((k3.take j.toNat).drop i.toNat).take (j.toNat - i.toNat)
  · refine k4 (fun e0 => hne (by rw [e0]; simp)) bb ?_
    have h7 := sub_own (p := p) (m := j.toNat) (cp := j.toNat) (i := i.toNat) (j := j.toNat - i.toNat) (k := j.toNat - i.toNat) (sz := R.sz)
    rw [sblk_own, sblk_own] at h7
    rw [← h7]; exact hbb
theorem box_rp {α : Type} {R : Rep α} {x : α} {T : TypeId} {S S' : Blk} {w : World} {v : Value} (h : (Cont.box T [.rd R x]).holds S w v) (hst : Stay S S' w w) (hS : ∀ b, rblk v = some b → S' b) : (Ent.rp R x).holds S' w (ptrTo v 0) := by
  rcases h with h2 | ⟨b, o, h2, h3, b', vs, rfl, rfl, h4⟩
  · exact h2.elim
  · match vs, h4 with
    | [y], ⟨⟨cs, h5, h6⟩, _⟩ =>
      simp only [rblk, Option.some.injEq] at h2
      subst h2
      refine ⟨b', 0, cs, rfl, hS b' rfl, R.mono hst h5, fun j q hq => ?_⟩
      have hB : Bx w b' (catC [y]).toArray T := h3
      have hcl : catC [y] = cs := by rw [h6]; simp [catC, Rep.val_cells h5]
      rw [hB.cell, hcl]; simpa using hq
theorem Sta.clo2 {α β : Type} {R1 : Rep α} {R2 : Rep β} {x1 : α} {x2 : β} {T1 T2 : TypeId} {v1 v2 : Value} {gf : FuncId} {a : Act} {w : World} (ha : Sta Γ l res a w) (t r1 r2 : Nat) (ht : lk l t = some (.val (.func (.func gf) #[] #[ptrTo v1 0, ptrTo v2 0]))) (h1 : lr res r1 = some (v1, .box T1 [.rd R1 x1])) (h2 : lr res r2 = some (v2, .box T2 [.rd R2 x2])) :
    Sta Γ ((t, .clo gf [.rp R1 x1, .rp R2 x2]) :: l) ((r2, none) :: (r1, none) :: res) a w := by
  have hsub : ∀ r' v' c', lr ((r2, none) :: (r1, none) :: res) r' = some (v', c') → r2 ≠ r' ∧ r1 ≠ r' ∧ lr res r' = some (v', c') := fun r' v' c' hr' => by
    rw [lr_cons] at hr'
    split at hr'
    · cases hr'
    · rename_i g1
      rw [lr_cons] at hr'
      split at hr'
      · cases hr'
      · rename_i g2; exact ⟨g1, g2, hr'⟩
  have hst : Stay (Shr Γ.H res w) (Shr Γ.H ((r2, none) :: (r1, none) :: res) w) w w := fun bb hb => ⟨⟨hb.1, fun r' v' c' hr' => hb.2.1 r' v' c' (hsub _ _ _ hr').2.2, hb.2.2⟩, rfl⟩
  have hS : ∀ r v c, lr res r = some (v, c) → (r = r1 ∨ r = r2) → ∀ b, rblk v = some b → Shr Γ.H ((r2, none) :: (r1, none) :: res) w b := fun r v c hr hrr b hb =>
    ⟨(ha.conts r v c hr).lt hb, fun r' v' c' hr' e => by
      obtain ⟨k1, k2, k3⟩ := hsub _ _ _ hr'
      refine ha.excl r v c r' v' c' hr k3 (fun e => ?_) b hb e
      rcases hrr with rfl | rfl
      · exact k2 e
      · exact k1 e, fun hH => ha.own r v c hr b hb (ha.hid b hH)⟩
  refine ⟨ha.size, ha.defers, fun t' e ht' => ?_, fun r' v' c' hr' => (ha.conts r' v' c' (hsub _ _ _ hr').2.2).mono hst (fun _ _ => rfl), fun r1 v1 c1 r2 v2 c2 h1 h2 hne => ha.excl r1 v1 c1 r2 v2 c2 (hsub _ _ _ h1).2.2 (hsub _ _ _ h2).2.2 hne, fun r' v' c' hr' => ha.own r' v' c' (hsub _ _ _ hr').2.2, ha.keep, ha.old, ha.hid⟩
  rw [lk_cons] at ht'
  split at ht'
  · rename_i hh; subst hh; cases ht'
    obtain ⟨u, k1, rfl, -⟩ := ha.slots t _ ht
    exact ⟨_, k1, [ptrTo v1 0, ptrTo v2 0], ⟨box_rp (ha.conts _ _ _ h1) hst (hS _ _ _ h1 (.inl rfl)), box_rp (ha.conts _ _ _ h2) hst (hS _ _ _ h2 (.inr rfl)), trivial⟩, rfl⟩
  · obtain ⟨u, k1, k2⟩ := ha.slots t' e ht'
    exact ⟨u, k1, e.mono hst k2⟩
theorem eClo2 {ρ α β : Type} {R1 : Rep α} {R2 : Rep β} {x1 : α} {x2 : β} {T1 T2 : TypeId} {v1 v2 : Value} {gf : FuncId} {e : Exit} {Q : ρ → Exit → Act → World → Prop} {m : Option ρ} (t r1 r2 : Nat) (ht : lk l t = some (.val (.func (.func gf) #[] #[ptrTo v1 0, ptrTo v2 0]))) (h1 : lr res r1 = some (v1, .box T1 [.rd R1 x1])) (h2 : lr res r2 = some (v2, .box T2 [.rd R2 x2]))
    (k : GE (Sta Γ ((t, .clo gf [.rp R1 x1, .rp R2 x2]) :: l) ((r2, none) :: (r1, none) :: res)) e Q m) : GE (Sta Γ l res) e Q m := fun a w ha => k a w (ha.clo2 t r1 r2 ht h1 h2)
theorem gMidE {ρ τ : Type} {ro : Option Nat} {A : Asn} {x : Code} {Q : ρ → Exit → Act → World → Prop} {Bs : τ → Asn} {m : Option τ} {k : τ → Option ρ} (hx : G ro P A x (midQ Bs) m) (hy : ∀ t, GE (Bs t) .normal Q (k t)) : G ro P A x Q (m >>= k) := fun a w ha r hr => by
  cases hm : m with
  | none => rw [hm] at hr; cases hr
  | some t =>
    rw [hm] at hr
    refine wpM_mono (fun e a w h => ?_) (hx a w ha t hm)
    obtain ⟨rfl, h⟩ := h
    exact hy t a w h r hr
theorem eRng {ρ : Type} {n : Nat} {H : Blk} {rin : Res} {w0 : World} {L : Slots} {rm : Nat} {rs : (Nat → Value) → Res} {e : Exit} {Q : ρ → Exit → Act → World → Prop} {m : Option ρ} (h : ∀ nv d, GE (Sta (ctxD n H rin w0 [dmark d]) L ((rm, some (d, .mark)) :: rs nv)) e Q m) : GE (rngAs n H rin w0 L rm rs) e Q m := fun a w ⟨nv, d, ha⟩ => h nv d a w ha
end
end Go.Proofs.Ytklfgpdfongaeaa
namespace Go.Proofs.Ytklfgpdfongaeaa
open Go Go.RowKit
set_option linter.unusedSimpArgs false
set_option linter.unusedVariables false
def slices_Chunk_api_ID_api_ID (a0 : List (Vector UInt8 32)) (a1 : Int) : Option (((List (Vector UInt8 32)) × Int)) :=
  if decide (a1 < 1) then
    none
  else
    some (a0, a1)
set_option maxRecDepth 100000 in
theorem slices_Chunk_api_ID_api_ID_ok (a0 : List (Vector UInt8 32)) (a1 : Int) : Spec Try.prog 123 [.rd (sliceR (arrR 32 u8R)) a0, .rd i64R a1] [] (slices_Chunk_api_ID_api_ID a0 a1) (fun r nv => ⟨[.clo 137 [.rp (sliceR (arrR 32 u8R)) r.1, .rp i64R r.2]], []⟩) := by
  refine spec 9 Try.func123 rfl rfl rfl fun H w => ?_
  refine gSeq <| gReg <| Eb rfl (bx 1 rfl) fun v1 => Eb rfl (bx 2 rfl) fun v2 => R rfl (asg rfl) <| gNil <| eThen <| gSeq <| gSeq <| gReg <| R rfl (ld 2 rfl rfl Foc.here ty3 rfl) <| R rfl (I.lss rfl rfl) <| gNil <| eThen <| gIf rfl rfl (fun h3 => ?_) (fun h3 => ?_)
  · skip
    refine gVoid
  · skip
    refine gSkip <| eThen <| gSeq <| gReg <| R rfl (mkf mp0 (mp2 rfl rfl)) <| R rfl (asg rfl) <| gNil <| eThen <| gRet <| eClo2 4 1 2 rfl rfl rfl <| eRet [] [] rfl (eE rfl <| eN) (rN)
def slices_Chunk_api_ID_api_ID_1_L0 {σ : Type} (Y : (List (Vector UInt8 32)) → σ → Option σ) (a1 : List (Vector UInt8 32)) (a2 : Int) (s1 : Int × σ) : Option (Sum σ (Int × σ)) :=
  if decide (s1.1 < (a1.length : Int)) then
    cut a1 s1.1 (a1.length : Int) >>= fun x6 =>
    some (min a2 (x6.length : Int)) >>= fun y8 =>
    cut a1 s1.1 (w64 (s1.1 + y8)) >>= fun x9 =>
    Y x9 s1.2 >>= fun s11 =>
    some (w64 (s1.1 + a2)) >>= fun y15 =>
    some (.inr (y15, s11))
  else
    some (.inl s1.2)
def slices_Chunk_api_ID_api_ID_1 {σ : Type} (a1 : List (Vector UInt8 32)) (a2 : Int) (Y : (List (Vector UInt8 32)) → σ → Option σ) (s0 : σ) : Option σ :=
  iter (slices_Chunk_api_ID_api_ID_1_L0 Y a1 a2) (0, s0)
set_option maxRecDepth 100000 in
theorem slices_Chunk_api_ID_api_ID_1_it (a1 : List (Vector UInt8 32)) (a2 : Int) : ItC Try.prog 137 (sliceR (arrR 32 u8R)) [.rp (sliceR (arrR 32 u8R)) a1, .rp i64R a2] (fun {σ} Y s => slices_Chunk_api_ID_api_ID_1 (σ := σ) a1 a2 Y s) := by
  refine specI 31 Try.func137 rfl rfl rfl ?_
  intro σ E V0 W0 s0 hJ0
  refine gSeq <| gReg <| R rfl (asg rfl) <| gNil <| eThen <| gLoop (fun (s1 : Int × σ) => iAs E 31 [(0, .val (.func (.yield E.l) #[] #[])), (1, .rp (sliceR (arrR 32 u8R)) a1), (2, .rp i64R a2), (4, .rd i64R s1.1)] s1.2) (fun aa ww h => ⟨_, _, hJ0, h.sub [] (sS rfl <| sS rfl <| sS rfl <| sS rfl <| sN) rN⟩) (fun s1 => ?_)
  refine gExI fun V2 W3 hJ4 => gSeq <| gSeq <| gReg <| R rfl (mv rfl) <| R rfl (ldR rfl ty83) <| R rfl (len' rfl .rd rfl Try.underlying83) <| R rfl (I.lss rfl rfl) <| gNil <| eThen <| gIf rfl rfl (fun h5 => ?_) (fun h5 => ?_)
  · skip
    refine gSkip <| eThen <| gSeq <| gBlk <| gSeq <| gRegQ mixed (by kernel_rfl) <| Rq rfl (ldR rfl ty3) <| Rq rfl (ldR rfl ty83) <| Rq rfl (mv rfl) <| qBind fun x6 h7 => Rq rfl (cut' rfl (.to rfl) .no h7 Try.underlying83 ti102) <| Rq rfl (len' rfl .rd rfl Try.underlying83) <| Rq rfl (I.min rfl rfl) <| Rq rfl (asg rfl) <| qName 5 rfl fun y8 => qNil <| eThen <| gSeq <| gRegY 10 <| R rfl (mv rfl) <| R rfl (ldR rfl ty83) <| R rfl (mv rfl) <| R rfl (mv rfl) <| R rfl (mv rfl) <| R rfl (I.add rfl rfl) <| R rfl (mv rfl) <| R rfl (mv rfl) <| R rfl (I.add rfl rfl) <| lBind fun x9 h10 => R rfl (cut3 rfl rfl rfl rfl h10 Try.underlying83 ti102) <| gNil <| eYield hJ4 rfl rfl rfl fun s11 V12 W13 hJ14 => R rfl (not' rfl) <| gNil <| eThen <| gFalse rfl <| gSkip <| eBlk <| eThen <| gReg <| R rfl (mv rfl) <| R rfl (ldR rfl ty3) <| R rfl (I.add rfl rfl) <| R rfl (asg rfl) <| lName 4 rfl fun y15 => gNil <| eNext (fun aa ww h => ⟨_, _, hJ14, h.sub [] (sS rfl <| sS rfl <| sS rfl <| sS rfl <| sN) rN⟩)
  · skip
    refine gExit <| eTexit <| eLeave <| eEndI hJ4 rfl
def frame_Split_R1 (a1 : UInt8) (x22 : List (Vector UInt8 32)) (s16 : (List api_Frame)) : Option ((List api_Frame)) :=
  slices_Clone_api_ID_api_ID x22 >>= fun r31 =>
  app 64 s16 [(⟨a1, 0, r31, []⟩ : api_Frame)] >>= fun x34 =>
  some x34
def frame_Split (a0 : List (Vector UInt8 32)) (a1 : UInt8) : Option ((List api_Frame) × Int) :=
  frame_listed a1 >>= fun r2 =>
  if !r2 then
    some ([], 2)
  else
    some (decide (60 < (a0.length : Int))) >>= fun y5 =>
    if y5 then
      some ([], 4)
    else
      frame_rising a0 >>= fun r7 =>
      if !r7 then
        some ([], 32)
      else
        some ((a0.length : Int) == 0) >>= fun y10 =>
        if y10 then
          some ([(⟨a1, 0, [], []⟩ : api_Frame)], 0)
        else
          slices_Chunk_api_ID_api_ID a0 40 >>= fun r14 =>
          slices_Chunk_api_ID_api_ID_1 r14.1 r14.2 (frame_Split_R1 a1) [] >>= fun s26 =>
          some (s26, 0)
set_option maxRecDepth 100000 in
theorem frame_Split_ok (a0 : List (Vector UInt8 32)) (a1 : UInt8) : Spec Try.prog 74 [.rd (sliceR (arrR 32 u8R)) a0, .rd u8R a1] [] (frame_Split a0 a1) (fun r nv => ⟨[.val (nv 0), .rd i64R r.2], [(100, some (nv 0, .list R_api_Frame 105 r.1))]⟩) := by
  refine specM 38 Try.func74 rfl rfl rfl fun H w => ?_
  refine gSeq <| gReg <| Eb rfl (bx 1 rfl) fun v1 => R rfl (asg rfl) <| R rfl (asg rfl) <| gNil <| eThen <| gSeq <| gBlk <| gSeq <| gReg <| R rfl (ld 1 rfl rfl Foc.here ty5 rfl) <| call [] [] rfl Try.func121 rfl rfl (frame_listed_ok _) (aQ rfl <| aN) rN fun r2 n3 => R rfl (not' rfl) <| R rfl (asg rfl) <| gNil <| eThen <| gIf rfl rfl (fun h4 => ?_) (fun h4 => ?_)
  · skip
    refine gKn 11 rfl h4 <| gSeq <| gReg <| R rfl (asg rfl) <| R rfl (asg rfl) <| gNil <| eThen <| gRet <| eBret <| eTret <| eNew R_api_Frame 105 2 <| eRet0 [(.slice none 0 0)] [2] rfl (eE rfl <| eE rfl <| eN) (rR rfl rfl <| rN)
  · skip
    refine gKn 11 rfl h4 <| gSeq <| gReg <| R rfl (mv rfl) <| R rfl (len' rfl .rd rfl Try.underlying83) <| R rfl (I.gtr rfl rfl) <| R rfl (asg rfl) <| lName 12 rfl fun y5 => gNil <| eThen <| gIf rfl rfl (fun h6 => ?_) (fun h6 => ?_)
    · skip
      refine gSeq <| gReg <| R rfl (asg rfl) <| R rfl (asg rfl) <| gNil <| eThen <| gRet <| eBret <| eTret <| eNew R_api_Frame 105 3 <| eRet0 [(.slice none 0 0)] [3] rfl (eE rfl <| eE rfl <| eN) (rR rfl rfl <| rN)
    · skip
      refine gSeq <| gReg <| R rfl (mv rfl) <| call [] [] rfl Try.func122 rfl rfl (frame_rising_ok _) (aQ rfl <| aN) rN fun r7 n8 => R rfl (not' rfl) <| R rfl (asg rfl) <| gNil <| eThen <| gIf rfl rfl (fun h9 => ?_) (fun h9 => ?_)
      · skip
        refine gKn 19 rfl h9 <| gSeq <| gReg <| R rfl (asg rfl) <| R rfl (asg rfl) <| gNil <| eThen <| gRet <| eBret <| eTret <| eNew R_api_Frame 105 4 <| eRet0 [(.slice none 0 0)] [4] rfl (eE rfl <| eE rfl <| eN) (rR rfl rfl <| rN)
      · skip
        refine gKn 19 rfl h9 <| gSeq <| gReg <| R rfl (mv rfl) <| R rfl (len' rfl .rd rfl Try.underlying83) <| R rfl (I.eql rfl rfl) <| R rfl (asg rfl) <| lName 20 rfl fun y10 => gNil <| eThen <| gIf rfl rfl (fun h11 => ?_) (fun h11 => ?_)
        · skip
          refine gSeq <| gReg <| R rfl (ld 1 rfl rfl Foc.here ty5 rfl) <| R rfl (bld (x' := (⟨a1, 0, [], []⟩ : api_Frame)) [(0, 1), (1, 1), (2, 1), (3, 1)] Try.underlying105 ti105 rfl zr105 rfl (Bld.cons (pt_api_Frame_Kind _) rfl rfl <| Bld.done rfl)) <| Ef rfl (lit (R := R_api_Frame) ([(⟨a1, 0, [], []⟩ : api_Frame)] : List api_Frame) 5 (pP rfl rfl <| pN) rfl Try.underlying110 ti105 rfl rfl) fun v12 => R rfl (asg rfl) <| R rfl (asg rfl) <| gNil <| eThen <| gRet <| eBret <| eTret <| eRet0 [v12] [5] rfl (eE rfl <| eE rfl <| eN) (rR rfl rfl <| rN)
        · skip
          refine gSkip <| eBlk <| eThen <| gSeq <| gReg <| Eb rfl (allc 6 ti110 (.val rfl)) fun v13 => gNil <| eThen <| gSeq <| gSeq <| gReg <| R rfl (mv rfl) <| call [] [] rfl Try.func123 rfl rfl (slices_Chunk_api_ID_api_ID_ok _ _) (aQ rfl <| aQ rfl <| aN) rN fun r14 n15 => gNil <| eThen <| gNew R_api_Frame 105 26 <| gMidE (gRange (it := fun {σ} Y s => slices_Chunk_api_ID_api_ID_1 (σ := σ) r14.1 r14.2 Y s) (fun (s16 : (List api_Frame)) (n17 : Nat → Value) => [(1, some (v1, .box 5 [.rd u8R a1])), (25, some ((n17 0), .list R_api_Frame 105 s16)), (6, some (v13, .box 110 [.val (n17 0)]))]) [(3, .val (ptrTo v1 0)), (6, .val (ptrTo v13 0))] 7 [(.slice none 0 0)] [1, 26, 6] (slices_Chunk_api_ID_api_ID_1_it r14.1 r14.2) (fun _ _ => run_callF Try.func137 rfl rfl) rfl (sS rfl <| sS rfl <| sN) (rR rfl rfl <| rR rfl rfl <| rR rfl rfl <| rN) rfl (fun _ _ => rfl) ?_) (fun s26 => ?_)
          · intro lp18 rec19 H20 W21 n17 x22 s16 hr23 hlp24 hl25
            refine gReg <| R rfl (asg rfl) <| gNil <| eBegin hr23 hlp24 hl25 fun W27 hk28 ho29 hl30 => gBlk <| gRegH [6, 25, 36, 42] mixed rfl rfl <| hTake 1 rfl (by kernel_rfl) (by kernel_rfl) (by kernel_rfl) (gd0 rfl) rfl rfl (ld 1 rfl rfl Foc.here ty5 rfl) <| hTake 2 rfl (by kernel_rfl) (by kernel_rfl) (by kernel_rfl) (gd0 rfl) rfl rfl (mv rfl) <| hAlt [0, 3] (by kernel_rfl) rfl ⟨?_, ?_, trivial⟩
            · skip
              refine oRun 0 rfl (gd0 rfl) rfl rfl flat_val (ldV 6 rfl rfl .here sc110 rfl) <| hCallF 3 [] [(100, 36)] rfl (by kernel_rfl) rfl (gd0 rfl) rfl Try.func124 rfl rfl (slices_Clone_api_ID_api_ID_ok _) (aQ rfl <| aN) rN rfl (fun _ _ => flat_val) fun r31 n32 => hFrz 36 [33] rfl (fS rfl <| fN) <| hTakeP 4 rfl (by kernel_rfl) (by kernel_rfl) (by kernel_rfl) (gd0 rfl) rfl rfl (bld (x' := (⟨a1, 0, r31, []⟩ : api_Frame)) [(0, 1), (1, 1), (2, 1), (3, 1)] Try.underlying105 ti105 rfl zr105 rfl (Bld.cons (pt_api_Frame_Kind _) rfl rfl <| Bld.cons (pt_api_Frame_IDs _) rfl rfl <| Bld.done rfl)) <| hDo 5 rfl (by kernel_rfl) (gd0 rfl) rfl rfl rfl (lit (R := R_api_Frame) ([(⟨a1, 0, r31, []⟩ : api_Frame)] : List api_Frame) 42 (pP rfl rfl <| pN) rfl Try.underlying110 ti105 rfl rfl) (fun _ => rfl) fun v33 => hFrz 42 [35] rfl (fS rfl <| fN) <| hBind fun x34 h35 => hDo 6 rfl (by kernel_rfl) (gd0 rfl) rfl rfl rfl (apn 25 rfl rfl rfl .rd h35 Try.underlying110 ti105 rfl rfl rfl) (fun _ => rfl) fun v36 => hDoS 7 rfl (by kernel_rfl) (gd0 rfl) rfl rfl rfl rfl (stoE 6 rfl rfl (.here fills_val) rfl ones_val fills_val ti110) <| hDone (by kernel_rfl) <| eBlk <| eRound [v36] [1, 25, 6] hk28 ho29 hl30 (rR rfl rfl <| rR rfl rfl <| rR rfl rfl <| rN)
            · skip
              refine oCallF 3 [] [(100, 36)] rfl rfl (gd0 rfl) rfl Try.func124 rfl rfl (slices_Clone_api_ID_api_ID_ok _) (aQ rfl <| aN) rN rfl (fun _ _ => flat_val) fun r37 n38 => hFrz 36 [33] rfl (fS rfl <| fN) <| hTakeP 4 rfl (by kernel_rfl) (by kernel_rfl) (by kernel_rfl) (gd0 rfl) rfl rfl (bld (x' := (⟨a1, 0, r37, []⟩ : api_Frame)) [(0, 1), (1, 1), (2, 1), (3, 1)] Try.underlying105 ti105 rfl zr105 rfl (Bld.cons (pt_api_Frame_Kind _) rfl rfl <| Bld.cons (pt_api_Frame_IDs _) rfl rfl <| Bld.done rfl)) <| hAlt [0, 5] (by kernel_rfl) rfl ⟨?_, ?_, trivial⟩
              · skip
                refine oRun 0 rfl (gd0 rfl) rfl rfl flat_val (ldV 6 rfl rfl .here sc110 rfl) <| hDo 5 rfl (by kernel_rfl) (gd0 rfl) rfl rfl rfl (lit (R := R_api_Frame) ([(⟨a1, 0, r37, []⟩ : api_Frame)] : List api_Frame) 42 (pP rfl rfl <| pN) rfl Try.underlying110 ti105 rfl rfl) (fun _ => rfl) fun v39 => hFrz 42 [35] rfl (fS rfl <| fN) <| hBind fun x40 h41 => hDo 6 rfl (by kernel_rfl) (gd0 rfl) rfl rfl rfl (apn 25 rfl rfl rfl .rd h41 Try.underlying110 ti105 rfl rfl rfl) (fun _ => rfl) fun v42 => hDoS 7 rfl (by kernel_rfl) (gd0 rfl) rfl rfl rfl rfl (stoE 6 rfl rfl (.here fills_val) rfl ones_val fills_val ti110) <| hDone (by kernel_rfl) <| eBlk <| eRound [v42] [1, 25, 6] hk28 ho29 hl30 (rR rfl rfl <| rR rfl rfl <| rR rfl rfl <| rN)
              · skip
                refine oDo 5 rfl (gd0 rfl) rfl rfl rfl (lit (R := R_api_Frame) ([(⟨a1, 0, r37, []⟩ : api_Frame)] : List api_Frame) 42 (pP rfl rfl <| pN) rfl Try.underlying110 ti105 rfl rfl) (fun _ => rfl) fun v43 => hRun 0 rfl (by kernel_rfl) (gd0 rfl) rfl rfl flat_val (ldV 6 rfl rfl .here sc110 rfl) <| hFrz 42 [35] rfl (fS rfl <| fN) <| hBind fun x44 h45 => hDo 6 rfl (by kernel_rfl) (gd0 rfl) rfl rfl rfl (apn 25 rfl rfl rfl .rd h45 Try.underlying110 ti105 rfl rfl rfl) (fun _ => rfl) fun v46 => hDoS 7 rfl (by kernel_rfl) (gd0 rfl) rfl rfl rfl rfl (stoE 6 rfl rfl (.here fills_val) rfl ones_val fills_val ti110) <| hDone (by kernel_rfl) <| eBlk <| eRound [v46] [1, 25, 6] hk28 ho29 hl30 (rR rfl rfl <| rR rfl rfl <| rR rfl rfl <| rN)
          · skip
            refine eRng fun n47 d48 => eThen <| gSeq <| gReg <| R rfl (ldV 6 rfl rfl .here sc110 rfl) <| R rfl (asg rfl) <| R rfl (asg rfl) <| gNil <| eThen <| gRet <| eRetM 7 [(n47 0)] [25] rfl rfl (eE rfl <| eE rfl <| eN) (rR rfl rfl <| rN)
end Go.Proofs.Ytklfgpdfongaeaa
namespace Go.Proofs.Ytklfgpdfongaeaa
open Go Go.RowKit
set_option linter.unusedSimpArgs false
set_option linter.unusedVariables false
def frame_Encode (a0 : api_Frame) : Option ((List UInt8) × Int) :=
  frame_write a0 >>= fun r2 =>
  if !r2.2 then
    some ([], 8)
  else
    some (r2.1, 0)
set_option maxRecDepth 100000 in
theorem frame_Encode_ok (a0 : api_Frame) : Spec Try.prog 72 [.rd R_api_Frame a0] [] (frame_Encode a0) (fun r nv => ⟨[.val (nv 0), .rd i64R r.2], [(100, some (nv 0, .list u8R 5 r.1))]⟩) := by
  refine spec 14 Try.func72 rfl rfl rfl fun H w => ?_
  refine gSeq <| gReg <| Eb rfl (bx 1 rfl) fun v1 => R rfl (asg rfl) <| R rfl (asg rfl) <| gNil <| eThen <| gSeq <| gReg <| R rfl (ld 1 rfl rfl Foc.here ty105 rfl) <| call [] [(100, 2)] rfl Try.func119 rfl rfl (frame_write_ok _) (aQ rfl <| aN) rN fun r2 n3 => R rfl (mv rfl) <| R rfl (ext rfl rfl) <| R rfl (ext rfl rfl) <| R rfl (asg rfl) <| R rfl (asg rfl) <| gNil <| eThen <| gSeq <| gSeq <| gReg <| R rfl (mv rfl) <| R rfl (not' rfl) <| gNil <| eThen <| gIf rfl rfl (fun h4 => ?_) (fun h4 => ?_)
  · skip
    refine gSeq <| gReg <| R rfl (asg rfl) <| R rfl (asg rfl) <| gNil <| eThen <| gRet <| eTret <| eNew u8R 5 3 <| eRet [(.slice none 0 0)] [3] rfl (eE rfl <| eE rfl <| eN) (rR rfl rfl <| rN)
  · skip
    refine gSkip <| eThen <| gSeq <| gReg <| R rfl (mv rfl) <| R rfl (asg rfl) <| R rfl (asg rfl) <| gNil <| eThen <| gRet <| eRet [(n3 0)] [2] rfl (eE rfl <| eE rfl <| eN) (rR rfl rfl <| rN)
end Go.Proofs.Ytklfgpdfongaeaa
namespace Go.Proofs.Ytklfgpdfongaeaa
open Go Go.RowKit
set_option linter.unusedSimpArgs false
set_option linter.unusedVariables false
theorem encode_eq (f : api_Frame) (h : okF f) : frame_Encode f = some (if goodF f then (encF f, 0) else ([], 8)) := by
  obtain ⟨o, h1, h2⟩ := fwrite f h
  unfold frame_Encode
  rw [h1]
  simp only [bs]
  cases hg : goodF f with
  | false => rfl
  | true => rw [h2 hg]; rfl
abbrev ids := List (Vector UInt8 32)
def splitL (l : ids) (k : UInt8) : List api_Frame := ⟨k, 0, l.take 40, []⟩ :: (if 40 < l.length then [⟨k, 0, l.drop 40, []⟩] else [])
def splitF (l : ids) (k : UInt8) : List api_Frame × Int :=
  if ¬ (k = 2 ∨ k = 3 ∨ k = 4) then ([], 2) else if 60 < l.length then ([], 4) else if incr l = false then ([], 32) else (splitL l k, 0)
theorem R1_eq (k : UInt8) (x : ids) (s : List api_Frame) (hx : x.length ≤ 100) (hs : s.length ≤ 10) : frame_Split_R1 k x s = some (s ++ [⟨k, 0, x, []⟩]) := by
  unfold frame_Split_R1 slices_Clone_api_ID_api_ID
  rw [app_eq (by simp; omega)]
  simp only [bs, List.nil_append]
  rw [app_eq (by simp; omega)]
  rfl
theorem chunk_step {σ : Type} (l : ids) (Y : ids → σ → Option σ) (i : Nat) (s s' : σ) (hi : i < l.length) (hl : l.length ≤ 100) (hY : Y ((l.drop i).take 40) s = some s') :
    iter (slices_Chunk_api_ID_api_ID_1_L0 Y l 40) ((i : Int), s) = iter (slices_Chunk_api_ID_api_ID_1_L0 Y l 40) (((i + 40 : Nat) : Int), s') := by
  refine iter_r ?_
  unfold slices_Chunk_api_ID_api_ID_1_L0
  rw [if_pos (by simp; omega)]
  simp only []
  rw [cut_eq (by omega) (Nat.le_refl _)]
  simp only [bs]
  have e1 : min (40 : Int) ((((l.drop i).take (l.length - i)).length : Nat) : Int) = ((min 40 (l.length - i) : Nat) : Int) := by
    simp; omega
  rw [e1, w64_eq (by omega) (by omega), show (i : Int) + ((min 40 (l.length - i) : Nat) : Int) = ((i + min 40 (l.length - i) : Nat) : Int) by omega, cut_eq (by omega) (by omega)]
  simp only [bs]
  have e2 : (l.drop i).take (i + min 40 (l.length - i) - i) = (l.drop i).take 40 := by
    rw [show i + min 40 (l.length - i) - i = min 40 (l.drop i).length by simp]
    rw [List.take_eq_take_iff]; simp
  rw [e2, hY]
  simp only [bs]
  rw [w64_eq (by omega) (by omega)]
  simp
theorem chunk_end {σ : Type} (l : ids) (Y : ids → σ → Option σ) (i : Nat) (s : σ) (hi : l.length ≤ i) : iter (slices_Chunk_api_ID_api_ID_1_L0 Y l 40) ((i : Int), s) = some s := by
  refine iter_l ?_
  unfold slices_Chunk_api_ID_api_ID_1_L0
  rw [if_neg (by simp; omega)]
theorem chunks_eq (l : ids) (k : UInt8) (h : l.length ≤ 60) (h0 : l ≠ []) : slices_Chunk_api_ID_api_ID_1 l 40 (frame_Split_R1 k) [] = some (splitL l k) := by
  have hp : 0 < l.length := List.length_pos_iff.2 h0
  unfold slices_Chunk_api_ID_api_ID_1
  have h1 := chunk_step l (frame_Split_R1 k) 0 [] _ hp (by omega) (R1_eq k _ [] (by simp; omega) (by simp))
  rw [show ((0 : Int), ([] : List api_Frame)) = (((0 : Nat) : Int), []) from rfl, h1]
  unfold splitL
  by_cases h2 : 40 < l.length
  · rw [if_pos h2, chunk_step l (frame_Split_R1 k) 40 _ _ h2 (by omega) (R1_eq k _ _ (by simp; omega) (by simp)), chunk_end l _ _ _ (by omega)]
    simp only [List.drop_zero, List.nil_append, List.cons_append]
    rw [List.take_of_length_le (show (l.drop 40).length ≤ 40 by simp; omega)]
  · rw [if_neg h2, chunk_end l _ _ _ (by omega)]
    simp
theorem split_eq (l : ids) (k : UInt8) (h : l.length ≤ 9223372036854775807) : frame_Split l k = some (splitF l k) := by
  unfold frame_Split splitF
  rw [listed_eq, Listed_eq]
  simp only [bs]
  by_cases hk : k = 2 ∨ k = 3 ∨ k = 4
  · rw [decide_eq_true hk, if_neg (by simp), if_neg (not_not_intro hk)]
    by_cases h1 : 60 < l.length
    · rw [if_pos h1, decide_eq_true (by omega)]; rfl
    · rw [if_neg h1, decide_eq_false (by omega)]
      rw [if_neg (by simp), frising_eq l h]
      simp only [bs]
      cases hi : incr l with
      | false => rfl
      | true =>
        rw [show (!true) = false from rfl, if_neg Bool.false_ne_true, if_neg (show ¬ (true = false) by decide)]
        by_cases h0 : l = []
        · subst h0; rfl
        · have : ((l.length : Int) == 0) = false := by
            cases hb : ((l.length : Int) == 0) with
            | false => rfl
            | true => exact absurd ((len0 l).1 hb) h0
          rw [this]
          unfold slices_Chunk_api_ID_api_ID
          rw [if_neg Bool.false_ne_true, if_neg (show ¬ (decide ((40 : Int) < 1) = true) by decide)]
          simp only [bs]
          rw [chunks_eq l k (by omega) h0]
          rfl
  · rw [decide_eq_false hk, if_pos (by rfl), if_pos hk]
end Go.Proofs.Ytklfgpdfongaeaa
namespace Go.Proofs.Ytklfgpdfongaeaa
open Go Go.RowKit
set_option linter.unusedSimpArgs false
set_option linter.unusedVariables false
def braidlaw07_rising_L0 (a0 : Int) (s2 : (List (Vector UInt8 32)) × Int) : Option (Sum ((List (Vector UInt8 32))) ((List (Vector UInt8 32)) × Int)) :=
  if decide (s2.2 < a0) then
    app 32 s2.1 [vset (Vector.replicate 32 0) ((0 : Nat) : Int) (UInt8.ofInt s2.2)] >>= fun x6 =>
    some (w64 (s2.2 + 1)) >>= fun y9 =>
    some (.inr (x6, y9))
  else
    some (.inl s2.1)
def braidlaw07_rising (a0 : Int) : Option ((List (Vector UInt8 32))) :=
  (iter (braidlaw07_rising_L0 a0) ([], 0)) >>= fun s1 =>
  some s1
set_option maxRecDepth 100000 in
theorem braidlaw07_rising_ok (a0 : Int) : Spec Try.prog 94 [.rd i64R a0] [] (braidlaw07_rising a0) (fun r nv => ⟨[.val (nv 0)], [(100, some (nv 0, .list (arrR 32 u8R) 102 r))]⟩) := by
  refine spec 17 Try.func94 rfl rfl rfl fun H w => ?_
  refine gSeq <| gReg <| R rfl (asg rfl) <| gNil <| eThen <| gSeq <| gReg <| R rfl (asg rfl) <| gNil <| eThen <| gMid (fun (s1 : (List (Vector UInt8 32))) aa ww => ∃ nv : Nat → Value, Sta (ctx 17 H [] w) [(3, .val (nv 0))] [(2, some ((nv 0), .list (arrR 32 u8R) 102 s1))] aa ww) ?_ (fun s1 => ?_)
  · skip
    refine gSeq <| gReg <| R rfl (asg rfl) <| gNil <| eThen <| gNew (arrR 32 u8R) 102 5 <| gLoop (fun (s2 : (List (Vector UInt8 32)) × Int) aa ww => ∃ nv : Nat → Value, Sta (ctx 17 H [] w) [(0, .rd i64R a0), (3, .val (nv 0)), (4, .rd i64R s2.2)] [(4, some ((nv 0), .list (arrR 32 u8R) 102 s2.1))] aa ww) (fun aa ww h => ⟨nvl [(.slice none 0 0)], h.sub [5] (sS rfl <| sS rfl <| sS rfl <| sN) (rR rfl rfl <| rN)⟩) (fun s2 => ?_)
    refine gEx fun n3 => gSeq <| gSeq <| gReg <| R rfl (mv rfl) <| R rfl (mv rfl) <| R rfl (I.lss rfl rfl) <| gNil <| eThen <| gIf rfl rfl (fun h4 => ?_) (fun h4 => ?_)
    · skip
      refine gSkip <| eThen <| gSeq <| gBlk <| gReg <| R rfl (mv rfl) <| R rfl (mv rfl) <| R rfl (I.toB rfl Try.underlying3 Try.underlying5) <| R rfl (bldG (x' := (vset (Vector.replicate 32 0) ((0 : Nat) : Int) (UInt8.ofInt s2.2) : Vector UInt8 32)) Try.underlying102 ti102 zr101 ti5 (Bld.cons (Part.el (vidx_ok (k := 0) (by decide))) rfl rfl <| Bld.done rfl)) <| Ef rfl (lit (R := (arrR 32 u8R)) ([vset (Vector.replicate 32 0) ((0 : Nat) : Int) (UInt8.ofInt s2.2)] : List (Vector UInt8 32)) 6 (pP rfl rfl <| pN) rfl Try.underlying83 ti102 rfl rfl) fun v5 => lFrz 6 [14] rfl (fS rfl <| fN) <| lBind fun x6 h7 => Ef rfl (apn 4 rfl rfl rfl .rd h7 Try.underlying83 ti102 rfl rfl rfl) fun v8 => R rfl (asg rfl) <| gNil <| eBlk <| eThen <| gReg <| R rfl (mv rfl) <| R rfl (I.add rfl rfl) <| R rfl (asg rfl) <| lName 4 rfl fun y9 => gNil <| eNext (fun aa ww h => ⟨nvl [v8], h.sub [4] (sS rfl <| sS rfl <| sS rfl <| sN) (rR rfl rfl <| rN)⟩)
    · skip
      refine gExit <| eTexit <| eLeave <| eMid (fun aa ww h => ⟨nvl [(n3 0)], h.sub [4] (sS rfl <| sN) (rR rfl rfl <| rN)⟩)
  · skip
    refine gEx fun n10 => gSeq <| gReg <| R rfl (mv rfl) <| R rfl (asg rfl) <| gNil <| eThen <| gRet <| eRet [(n10 0)] [2] rfl (eE rfl <| eN) (rR rfl rfl <| rN)
def braidlaw07_is (a0 : api_Frame) (a1 : List UInt8) : Option (Bool) :=
  frame_Encode a0 >>= fun r2 =>
  frame_Parse a1 >>= fun r4 =>
  if r2.2 == 0 then
    braidref01_SameBytes r2.1 a1 >>= fun r8 =>
    if r8 then
      if r4.2 == 0 then
        braidref07_Same a0 r4.1 >>= fun r12 =>
        some r12
      else
        some false
    else
      some false
  else
    some false
set_option maxRecDepth 100000 in
theorem braidlaw07_is_ok (a0 : api_Frame) (a1 : List UInt8) : Spec Try.prog 96 [.rd R_api_Frame a0, .rd (sliceR u8R) a1] [] (braidlaw07_is a0 a1) (fun r nv => ⟨[.rd boolR r], []⟩) := by
  refine spec 35 Try.func96 rfl rfl rfl fun H w => ?_
  refine gSeq <| gReg <| Eb rfl (bx 1 rfl) fun v1 => R rfl (asg rfl) <| gNil <| eThen <| gSeq <| gReg <| R rfl (ld 1 rfl rfl Foc.here ty105 rfl) <| call [] [(100, 2)] rfl Try.func72 rfl rfl (frame_Encode_ok _) (aQ rfl <| aN) rN fun r2 n3 => R rfl (mv rfl) <| R rfl (ext rfl rfl) <| R rfl (ext rfl rfl) <| R rfl (asg rfl) <| R rfl (asg rfl) <| gNil <| eThen <| gSeq <| gReg <| R rfl (mv rfl) <| call [] [] rfl Try.func79 rfl rfl (frame_Parse_ok _) (aQ rfl <| aN) rN fun r4 n5 => R rfl (mv rfl) <| R rfl (ext rfl rfl) <| R rfl (ext rfl rfl) <| Eb rfl (allc 3 ti105 (ZrE.rd (R := u8R) (x := 0) (Zr.num rfl) (ZrE.rd (R := u64R) (x := 0) (Zr.num rfl) (ZrE.nilS (ZrE.nilS ZrE.nil)) rfl) rfl)) fun v6 => lPnl (arrR 32 u8R) [.rd u8R 0, .rd u64R 0, .rd (sliceR (arrR 32 u8R)) [], .val (.slice none 0 0)] 3 [.rd u8R 0, .rd u64R 0] [.val (.slice none 0 0)] rfl rfl rfl <| lPnl (sliceR u8R) [.rd u8R 0, .rd u64R 0, .rd (sliceR (arrR 32 u8R)) [], .rd (sliceR (sliceR u8R)) []] 3 [.rd u8R 0, .rd u64R 0, .rd (sliceR (arrR 32 u8R)) []] [] rfl rfl rfl <| lJoi (R := R_api_Frame) (⟨0, 0, [], []⟩ : api_Frame) 3 rfl (Sp.via (Sp.prod (Sp.prod (Sp.prod (Sp.prod Sp.unit))))) <| Es (sto 3 rfl rfl Foc.here rfl ti105) <| R rfl (asg rfl) <| gNil <| eThen <| gSeq <| gReg <| R rfl (mv rfl) <| R rfl (I.eql rfl rfl) <| R rfl (mv rfl) <| lSplit 21 rfl (fun h7 => ?_) (fun h7 => ?_)
  · skip
    refine lKn 20 rfl h7 <| lRun (gd rfl rfl rfl rfl) rfl rfl (mv rfl) <| lRun (gd rfl rfl rfl rfl) rfl rfl (mv rfl) <| lFrz 2 [12, 5, 22] rfl (fS rfl <| fS rfl <| fS rfl <| fN) <| callg [] [] (gd rfl rfl rfl rfl) rfl Try.func30 rfl rfl (braidref01_SameBytes_ok _ _) (aQ rfl <| aQ rfl <| aN) rN fun r8 n9 => R rfl (pkT rfl rfl) <| R rfl (mv rfl) <| lSplit 26 rfl (fun h10 => ?_) (fun h10 => ?_)
    · skip
      refine lKn 24 rfl h10 <| lKn 25 rfl h10 <| lRun (gd rfl rfl rfl rfl) rfl rfl (mv rfl) <| lRun (gd rfl rfl rfl rfl) rfl rfl (I.eql rfl rfl) <| R rfl (pkT rfl rfl) <| R rfl (mv rfl) <| lSplit 30 rfl (fun h11 => ?_) (fun h11 => ?_)
      · skip
        refine lKn 28 rfl h11 <| lKn 29 rfl h11 <| lRun (gd rfl rfl rfl rfl) rfl rfl (ld 1 rfl rfl Foc.here ty105 rfl) <| lRun (gd rfl rfl rfl rfl) rfl rfl (ld 3 rfl rfl Foc.here ty105 rfl) <| callg [] [] (gd rfl rfl rfl rfl) rfl Try.func78 rfl rfl (braidref07_Same_ok _ _) (aQ rfl <| aQ rfl <| aN) rN fun r12 n13 => R rfl (pkT rfl rfl) <| R rfl (asg rfl) <| gNil <| eThen <| gRet <| eRet [] [] rfl (eE rfl <| eN) (rN)
      · skip
        refine lKn 28 rfl h11 <| lKn 29 rfl h11 <| lSkip (gd rfl rfl rfl rfl) rfl rfl <| lSkip (gd rfl rfl rfl rfl) rfl rfl <| lSkip (gd rfl rfl rfl rfl) rfl rfl <| R rfl (pkF rfl rfl) <| R rfl (asg rfl) <| gNil <| eThen <| gRet <| eRet [] [] rfl (eE rfl <| eN) (rN)
    · skip
      refine lKn 24 rfl h10 <| lKn 25 rfl h10 <| lSkip (gd rfl rfl rfl rfl) rfl rfl <| lSkip (gd rfl rfl rfl rfl) rfl rfl <| R rfl (pkF rfl rfl) <| R rfl (mv rfl) <| lSkip (gd rfl rfl rfl rfl) rfl rfl <| lSkip (gd rfl rfl rfl rfl) rfl rfl <| lSkip (gd rfl rfl rfl rfl) rfl rfl <| R rfl (pkF rfl rfl) <| R rfl (asg rfl) <| gNil <| eThen <| gRet <| eRet [] [] rfl (eE rfl <| eN) (rN)
  · skip
    refine lKn 20 rfl h7 <| lSkip (gd rfl rfl rfl rfl) rfl rfl <| lSkip (gd rfl rfl rfl rfl) rfl rfl <| lSkip (gd rfl rfl rfl rfl) rfl rfl <| R rfl (pkF rfl rfl) <| R rfl (mv rfl) <| lSkip (gd rfl rfl rfl rfl) rfl rfl <| lSkip (gd rfl rfl rfl rfl) rfl rfl <| R rfl (pkF rfl rfl) <| R rfl (mv rfl) <| lSkip (gd rfl rfl rfl rfl) rfl rfl <| lSkip (gd rfl rfl rfl rfl) rfl rfl <| lSkip (gd rfl rfl rfl rfl) rfl rfl <| R rfl (pkF rfl rfl) <| R rfl (asg rfl) <| gNil <| eThen <| gRet <| eRet [] [] rfl (eE rfl <| eN) (rN)
def braidlaw07_refused (a0 : List UInt8) : Option (Bool) :=
  frame_Parse a0 >>= fun r1 =>
  some (r1.2 == 12)
set_option maxRecDepth 100000 in
theorem braidlaw07_refused_ok (a0 : List UInt8) : Spec Try.prog 95 [.rd (sliceR u8R) a0] [] (braidlaw07_refused a0) (fun r nv => ⟨[.rd boolR r], []⟩) := by
  refine spec 12 Try.func95 rfl rfl rfl fun H w => ?_
  refine gSeq <| gReg <| R rfl (asg rfl) <| gNil <| eThen <| gSeq <| gReg <| R rfl (mv rfl) <| call [] [] rfl Try.func79 rfl rfl (frame_Parse_ok _) (aQ rfl <| aN) rN fun r1 n2 => R rfl (mv rfl) <| R rfl (ext rfl rfl) <| R rfl (ext rfl rfl) <| Eb rfl (allc 1 ti105 (ZrE.rd (R := u8R) (x := 0) (Zr.num rfl) (ZrE.rd (R := u64R) (x := 0) (Zr.num rfl) (ZrE.nilS (ZrE.nilS ZrE.nil)) rfl) rfl)) fun v3 => lPnl (arrR 32 u8R) [.rd u8R 0, .rd u64R 0, .rd (sliceR (arrR 32 u8R)) [], .val (.slice none 0 0)] 1 [.rd u8R 0, .rd u64R 0] [.val (.slice none 0 0)] rfl rfl rfl <| lPnl (sliceR u8R) [.rd u8R 0, .rd u64R 0, .rd (sliceR (arrR 32 u8R)) [], .rd (sliceR (sliceR u8R)) []] 1 [.rd u8R 0, .rd u64R 0, .rd (sliceR (arrR 32 u8R)) []] [] rfl rfl rfl <| lJoi (R := R_api_Frame) (⟨0, 0, [], []⟩ : api_Frame) 1 rfl (Sp.via (Sp.prod (Sp.prod (Sp.prod (Sp.prod Sp.unit))))) <| Es (sto 1 rfl rfl Foc.here rfl ti105) <| R rfl (asg rfl) <| gNil <| eThen <| gSeq <| gReg <| R rfl (mv rfl) <| R rfl (I.eql rfl rfl) <| R rfl (asg rfl) <| gNil <| eThen <| gRet <| eRet [] [] rfl (eE rfl <| eN) (rN)
def braidlaw07_alive  : Option (Bool) :=
  braidlaw07_rising 41 >>= fun r1 =>
  frame_Split r1 2 >>= fun r3 =>
  braidlaw07_is (⟨1, 300, [], []⟩ : api_Frame) [1, 249, 1, 44] >>= fun r6 =>
  if r6 then
    braidlaw07_is (⟨3, 0, [], []⟩ : api_Frame) [3, 0] >>= fun r10 =>
    if r10 then
      braidlaw07_is (⟨5, 0, [], [[97, 98], []]⟩ : api_Frame) [5, 2, 2, 97, 98, 0] >>= fun r16 =>
      if r16 then
        braidlaw07_refused [7, 0] >>= fun r20 =>
        if r20 then
          braidlaw07_refused [1] >>= fun r24 =>
          if r24 then
            if r3.2 == 0 then
              if (r3.1.length : Int) == 2 then
                idx r3.1 0 >>= fun x29 =>
                if (x29.IDs.length : Int) == 40 then
                  idx r3.1 1 >>= fun x32 =>
                  some ((x32.IDs.length : Int) == 1) >>= fun y34 =>
                  some y34
                else
                  some false
              else
                some false
            else
              some false
          else
            some false
        else
          some false
      else
        some false
    else
      some false
  else
    some false
set_option maxRecDepth 100000 in
theorem braidlaw07_alive_ok  : Spec Try.prog 92 [] [] (braidlaw07_alive) (fun r nv => ⟨[.rd boolR r], []⟩) := by
  refine spec 56 Try.func92 rfl rfl rfl fun H w => ?_
  refine gSeq <| gReg <| R rfl (asg rfl) <| gNil <| eThen <| gSeq <| gReg <| call [] [(100, 1)] rfl Try.func94 rfl rfl (braidlaw07_rising_ok _) (aQ rfl <| aN) rN fun r1 n2 => lFrz 1 [4] rfl (fS rfl <| fN) <| call [] [(100, 2)] rfl Try.func74 rfl rfl (frame_Split_ok _ _) (aQ rfl <| aQ rfl <| aN) rN fun r3 n4 => R rfl (mv rfl) <| R rfl (ext rfl rfl) <| R rfl (ext rfl rfl) <| R rfl (asg rfl) <| R rfl (asg rfl) <| gNil <| eThen <| gSeq <| gReg <| R rfl (bld (x' := (⟨1, 300, [], []⟩ : api_Frame)) [(0, 1), (1, 1), (2, 1), (3, 1)] Try.underlying105 ti105 rfl zr105 rfl (Bld.cons (pt_api_Frame_Kind _) rfl rfl <| Bld.cons (pt_api_Frame_N _) rfl rfl <| Bld.done rfl)) <| Ef rfl (lit (R := u8R) ([1, 249, 1, 44] : List UInt8) 3 (pP rfl rfl <| pP rfl rfl <| pP rfl rfl <| pP rfl rfl <| pN) rfl Try.underlying32 ti5 rfl rfl) fun v5 => lFrz 3 [9] rfl (fS rfl <| fN) <| call [] [] rfl Try.func96 rfl rfl (braidlaw07_is_ok _ _) (aQ rfl <| aQ rfl <| aN) rN fun r6 n7 => R rfl (mv rfl) <| lSplit 11 rfl (fun h8 => ?_) (fun h8 => ?_)
  · skip
    refine lKn 10 rfl h8 <| lRun (gd rfl rfl rfl rfl) rfl rfl (bld (x' := (⟨3, 0, [], []⟩ : api_Frame)) [(0, 1), (1, 1), (2, 1), (3, 1)] Try.underlying105 ti105 rfl zr105 rfl (Bld.cons (pt_api_Frame_Kind _) rfl rfl <| Bld.done rfl)) <| Efg (gd rfl rfl rfl rfl) rfl rfl (lit (R := u8R) ([3, 0] : List UInt8) 4 (pP rfl rfl <| pP rfl rfl <| pN) rfl Try.underlying32 ti5 rfl rfl) fun v9 => lFrz 4 [13] rfl (fS rfl <| fN) <| callg [] [] (gd rfl rfl rfl rfl) rfl Try.func96 rfl rfl (braidlaw07_is_ok _ _) (aQ rfl <| aQ rfl <| aN) rN fun r10 n11 => R rfl (pkT rfl rfl) <| R rfl (mv rfl) <| lSplit 16 rfl (fun h12 => ?_) (fun h12 => ?_)
    · skip
      refine lKn 14 rfl h12 <| lKn 15 rfl h12 <| Efg (gd rfl rfl rfl rfl) rfl rfl (lit (R := u8R) ([97, 98] : List UInt8) 5 (pP rfl rfl <| pP rfl rfl <| pN) rfl Try.underlying32 ti5 rfl rfl) fun v13 => lFrz 5 [17] rfl (fS rfl <| fN) <| Efg (gd rfl rfl rfl rfl) rfl rfl (lit (R := (sliceR u8R)) ([[97, 98], []] : List (List UInt8)) 6 (pP rfl rfl <| pNil rfl <| pN) rfl Try.underlying103 ti32 rfl rfl) fun v14 => lFrz 6 [18] rfl (fS rfl <| fN) <| lRun (gd rfl rfl rfl rfl) rfl rfl (bld (x' := (⟨5, 0, [], [[97, 98], []]⟩ : api_Frame)) [(0, 1), (1, 1), (2, 1), (3, 1)] Try.underlying105 ti105 rfl zr105 rfl (Bld.cons (pt_api_Frame_Kind _) rfl rfl <| Bld.cons (pt_api_Frame_Ops _) rfl rfl <| Bld.done rfl)) <| Efg (gd rfl rfl rfl rfl) rfl rfl (lit (R := u8R) ([5, 2, 2, 97, 98, 0] : List UInt8) 7 (pP rfl rfl <| pP rfl rfl <| pP rfl rfl <| pP rfl rfl <| pP rfl rfl <| pP rfl rfl <| pN) rfl Try.underlying32 ti5 rfl rfl) fun v15 => lFrz 7 [20] rfl (fS rfl <| fN) <| callg [] [] (gd rfl rfl rfl rfl) rfl Try.func96 rfl rfl (braidlaw07_is_ok _ _) (aQ rfl <| aQ rfl <| aN) rN fun r16 n17 => R rfl (pkT rfl rfl) <| R rfl (mv rfl) <| lSplit 23 rfl (fun h18 => ?_) (fun h18 => ?_)
      · skip
        refine lKn 21 rfl h18 <| lKn 22 rfl h18 <| Efg (gd rfl rfl rfl rfl) rfl rfl (lit (R := u8R) ([7, 0] : List UInt8) 8 (pP rfl rfl <| pP rfl rfl <| pN) rfl Try.underlying32 ti5 rfl rfl) fun v19 => lFrz 8 [24] rfl (fS rfl <| fN) <| callg [] [] (gd rfl rfl rfl rfl) rfl Try.func95 rfl rfl (braidlaw07_refused_ok _) (aQ rfl <| aN) rN fun r20 n21 => R rfl (pkT rfl rfl) <| R rfl (mv rfl) <| lSplit 27 rfl (fun h22 => ?_) (fun h22 => ?_)
        · skip
          refine lKn 25 rfl h22 <| lKn 26 rfl h22 <| Efg (gd rfl rfl rfl rfl) rfl rfl (lit (R := u8R) ([1] : List UInt8) 9 (pP rfl rfl <| pN) rfl Try.underlying32 ti5 rfl rfl) fun v23 => lFrz 9 [28] rfl (fS rfl <| fN) <| callg [] [] (gd rfl rfl rfl rfl) rfl Try.func95 rfl rfl (braidlaw07_refused_ok _) (aQ rfl <| aN) rN fun r24 n25 => R rfl (pkT rfl rfl) <| R rfl (mv rfl) <| lSplit 31 rfl (fun h26 => ?_) (fun h26 => ?_)
          · skip
            refine lKn 29 rfl h26 <| lKn 30 rfl h26 <| lRun (gd rfl rfl rfl rfl) rfl rfl (mv rfl) <| lRun (gd rfl rfl rfl rfl) rfl rfl (I.eql rfl rfl) <| R rfl (pkT rfl rfl) <| R rfl (mv rfl) <| lSplit 35 rfl (fun h27 => ?_) (fun h27 => ?_)
            · skip
              refine lKn 33 rfl h27 <| lKn 34 rfl h27 <| lRun (gd rfl rfl rfl rfl) rfl rfl (mv rfl) <| lRun (gd rfl rfl rfl rfl) rfl rfl (len' rfl (.own 2 rfl) rfl Try.underlying110) <| lRun (gd rfl rfl rfl rfl) rfl rfl (I.eql rfl rfl) <| R rfl (pkT rfl rfl) <| R rfl (mv rfl) <| lSplit 40 rfl (fun h28 => ?_) (fun h28 => ?_)
              · skip
                refine lKn 38 rfl h28 <| lKn 39 rfl h28 <| lRun (gd rfl rfl rfl rfl) rfl rfl (mv rfl) <| lBind fun x29 h30 => lRun (gd rfl rfl rfl rfl) rfl rfl (ixO 2 rfl rfl rfl h30 Try.underlying110 ti105) <| lRun (gd rfl rfl rfl rfl) rfl rfl (fa 2 rfl rfl list_base (nonil h30) Try.underlying105 rfl (by exact ti83)) <| lRun (gd rfl rfl rfl rfl) rfl rfl (ld 2 rfl rfl ((Foc.el h30).part (pt_api_Frame_IDs _)) ty83 rfl) <| lRun (gd rfl rfl rfl rfl) rfl rfl (len' rfl .rd rfl Try.underlying83) <| lRun (gd rfl rfl rfl rfl) rfl rfl (I.eql rfl rfl) <| R rfl (pkT rfl rfl) <| R rfl (mv rfl) <| lSplit 48 rfl (fun h31 => ?_) (fun h31 => ?_)
                · skip
                  refine lKn 46 rfl h31 <| lKn 47 rfl h31 <| lRun (gd rfl rfl rfl rfl) rfl rfl (mv rfl) <| lBind fun x32 h33 => lRun (gd rfl rfl rfl rfl) rfl rfl (ixO 2 rfl rfl rfl h33 Try.underlying110 ti105) <| lRun (gd rfl rfl rfl rfl) rfl rfl (fa 2 rfl rfl list_base (nonil h33) Try.underlying105 rfl (by exact ti83)) <| lRun (gd rfl rfl rfl rfl) rfl rfl (ld 2 rfl rfl ((Foc.el h33).part (pt_api_Frame_IDs _)) ty83 rfl) <| lRun (gd rfl rfl rfl rfl) rfl rfl (len' rfl .rd rfl Try.underlying83) <| lRun (gd rfl rfl rfl rfl) rfl rfl (I.eql rfl rfl) <| R rfl (pkT rfl rfl) <| R rfl (asg rfl) <| lName 0 rfl fun y34 => gNil <| eThen <| gRet <| eRet [] [] rfl (eE rfl <| eN) (rN)
                · skip
                  refine lKn 46 rfl h31 <| lKn 47 rfl h31 <| lSkip (gd rfl rfl rfl rfl) rfl rfl <| lSkip (gd rfl rfl rfl rfl) rfl rfl <| lSkip (gd rfl rfl rfl rfl) rfl rfl <| lSkip (gd rfl rfl rfl rfl) rfl rfl <| lSkip (gd rfl rfl rfl rfl) rfl rfl <| lSkip (gd rfl rfl rfl rfl) rfl rfl <| R rfl (pkF rfl rfl) <| R rfl (asg rfl) <| gNil <| eThen <| gRet <| eRet [] [] rfl (eE rfl <| eN) (rN)
              · skip
                refine lKn 38 rfl h28 <| lKn 39 rfl h28 <| lSkip (gd rfl rfl rfl rfl) rfl rfl <| lSkip (gd rfl rfl rfl rfl) rfl rfl <| lSkip (gd rfl rfl rfl rfl) rfl rfl <| lSkip (gd rfl rfl rfl rfl) rfl rfl <| lSkip (gd rfl rfl rfl rfl) rfl rfl <| lSkip (gd rfl rfl rfl rfl) rfl rfl <| R rfl (pkF rfl rfl) <| R rfl (mv rfl) <| lSkip (gd rfl rfl rfl rfl) rfl rfl <| lSkip (gd rfl rfl rfl rfl) rfl rfl <| lSkip (gd rfl rfl rfl rfl) rfl rfl <| lSkip (gd rfl rfl rfl rfl) rfl rfl <| lSkip (gd rfl rfl rfl rfl) rfl rfl <| lSkip (gd rfl rfl rfl rfl) rfl rfl <| R rfl (pkF rfl rfl) <| R rfl (asg rfl) <| gNil <| eThen <| gRet <| eRet [] [] rfl (eE rfl <| eN) (rN)
            · skip
              refine lKn 33 rfl h27 <| lKn 34 rfl h27 <| lSkip (gd rfl rfl rfl rfl) rfl rfl <| lSkip (gd rfl rfl rfl rfl) rfl rfl <| lSkip (gd rfl rfl rfl rfl) rfl rfl <| R rfl (pkF rfl rfl) <| R rfl (mv rfl) <| lSkip (gd rfl rfl rfl rfl) rfl rfl <| lSkip (gd rfl rfl rfl rfl) rfl rfl <| lSkip (gd rfl rfl rfl rfl) rfl rfl <| lSkip (gd rfl rfl rfl rfl) rfl rfl <| lSkip (gd rfl rfl rfl rfl) rfl rfl <| lSkip (gd rfl rfl rfl rfl) rfl rfl <| R rfl (pkF rfl rfl) <| R rfl (mv rfl) <| lSkip (gd rfl rfl rfl rfl) rfl rfl <| lSkip (gd rfl rfl rfl rfl) rfl rfl <| lSkip (gd rfl rfl rfl rfl) rfl rfl <| lSkip (gd rfl rfl rfl rfl) rfl rfl <| lSkip (gd rfl rfl rfl rfl) rfl rfl <| lSkip (gd rfl rfl rfl rfl) rfl rfl <| R rfl (pkF rfl rfl) <| R rfl (asg rfl) <| gNil <| eThen <| gRet <| eRet [] [] rfl (eE rfl <| eN) (rN)
          · skip
            refine lKn 29 rfl h26 <| lKn 30 rfl h26 <| lSkip (gd rfl rfl rfl rfl) rfl rfl <| lSkip (gd rfl rfl rfl rfl) rfl rfl <| R rfl (pkF rfl rfl) <| R rfl (mv rfl) <| lSkip (gd rfl rfl rfl rfl) rfl rfl <| lSkip (gd rfl rfl rfl rfl) rfl rfl <| lSkip (gd rfl rfl rfl rfl) rfl rfl <| R rfl (pkF rfl rfl) <| R rfl (mv rfl) <| lSkip (gd rfl rfl rfl rfl) rfl rfl <| lSkip (gd rfl rfl rfl rfl) rfl rfl <| lSkip (gd rfl rfl rfl rfl) rfl rfl <| lSkip (gd rfl rfl rfl rfl) rfl rfl <| lSkip (gd rfl rfl rfl rfl) rfl rfl <| lSkip (gd rfl rfl rfl rfl) rfl rfl <| R rfl (pkF rfl rfl) <| R rfl (mv rfl) <| lSkip (gd rfl rfl rfl rfl) rfl rfl <| lSkip (gd rfl rfl rfl rfl) rfl rfl <| lSkip (gd rfl rfl rfl rfl) rfl rfl <| lSkip (gd rfl rfl rfl rfl) rfl rfl <| lSkip (gd rfl rfl rfl rfl) rfl rfl <| lSkip (gd rfl rfl rfl rfl) rfl rfl <| R rfl (pkF rfl rfl) <| R rfl (asg rfl) <| gNil <| eThen <| gRet <| eRet [] [] rfl (eE rfl <| eN) (rN)
        · skip
          refine lKn 25 rfl h22 <| lKn 26 rfl h22 <| lSkip (gd rfl rfl rfl rfl) rfl rfl <| lSkip (gd rfl rfl rfl rfl) rfl rfl <| R rfl (pkF rfl rfl) <| R rfl (mv rfl) <| lSkip (gd rfl rfl rfl rfl) rfl rfl <| lSkip (gd rfl rfl rfl rfl) rfl rfl <| R rfl (pkF rfl rfl) <| R rfl (mv rfl) <| lSkip (gd rfl rfl rfl rfl) rfl rfl <| lSkip (gd rfl rfl rfl rfl) rfl rfl <| lSkip (gd rfl rfl rfl rfl) rfl rfl <| R rfl (pkF rfl rfl) <| R rfl (mv rfl) <| lSkip (gd rfl rfl rfl rfl) rfl rfl <| lSkip (gd rfl rfl rfl rfl) rfl rfl <| lSkip (gd rfl rfl rfl rfl) rfl rfl <| lSkip (gd rfl rfl rfl rfl) rfl rfl <| lSkip (gd rfl rfl rfl rfl) rfl rfl <| lSkip (gd rfl rfl rfl rfl) rfl rfl <| R rfl (pkF rfl rfl) <| R rfl (mv rfl) <| lSkip (gd rfl rfl rfl rfl) rfl rfl <| lSkip (gd rfl rfl rfl rfl) rfl rfl <| lSkip (gd rfl rfl rfl rfl) rfl rfl <| lSkip (gd rfl rfl rfl rfl) rfl rfl <| lSkip (gd rfl rfl rfl rfl) rfl rfl <| lSkip (gd rfl rfl rfl rfl) rfl rfl <| R rfl (pkF rfl rfl) <| R rfl (asg rfl) <| gNil <| eThen <| gRet <| eRet [] [] rfl (eE rfl <| eN) (rN)
      · skip
        refine lKn 21 rfl h18 <| lKn 22 rfl h18 <| lSkip (gd rfl rfl rfl rfl) rfl rfl <| lSkip (gd rfl rfl rfl rfl) rfl rfl <| R rfl (pkF rfl rfl) <| R rfl (mv rfl) <| lSkip (gd rfl rfl rfl rfl) rfl rfl <| lSkip (gd rfl rfl rfl rfl) rfl rfl <| R rfl (pkF rfl rfl) <| R rfl (mv rfl) <| lSkip (gd rfl rfl rfl rfl) rfl rfl <| lSkip (gd rfl rfl rfl rfl) rfl rfl <| R rfl (pkF rfl rfl) <| R rfl (mv rfl) <| lSkip (gd rfl rfl rfl rfl) rfl rfl <| lSkip (gd rfl rfl rfl rfl) rfl rfl <| lSkip (gd rfl rfl rfl rfl) rfl rfl <| R rfl (pkF rfl rfl) <| R rfl (mv rfl) <| lSkip (gd rfl rfl rfl rfl) rfl rfl <| lSkip (gd rfl rfl rfl rfl) rfl rfl <| lSkip (gd rfl rfl rfl rfl) rfl rfl <| lSkip (gd rfl rfl rfl rfl) rfl rfl <| lSkip (gd rfl rfl rfl rfl) rfl rfl <| lSkip (gd rfl rfl rfl rfl) rfl rfl <| R rfl (pkF rfl rfl) <| R rfl (mv rfl) <| lSkip (gd rfl rfl rfl rfl) rfl rfl <| lSkip (gd rfl rfl rfl rfl) rfl rfl <| lSkip (gd rfl rfl rfl rfl) rfl rfl <| lSkip (gd rfl rfl rfl rfl) rfl rfl <| lSkip (gd rfl rfl rfl rfl) rfl rfl <| lSkip (gd rfl rfl rfl rfl) rfl rfl <| R rfl (pkF rfl rfl) <| R rfl (asg rfl) <| gNil <| eThen <| gRet <| eRet [] [] rfl (eE rfl <| eN) (rN)
    · skip
      refine lKn 14 rfl h12 <| lKn 15 rfl h12 <| lSkip (gd rfl rfl rfl rfl) rfl rfl <| lSkip (gd rfl rfl rfl rfl) rfl rfl <| lSkip (gd rfl rfl rfl rfl) rfl rfl <| lSkip (gd rfl rfl rfl rfl) rfl rfl <| lSkip (gd rfl rfl rfl rfl) rfl rfl <| R rfl (pkF rfl rfl) <| R rfl (mv rfl) <| lSkip (gd rfl rfl rfl rfl) rfl rfl <| lSkip (gd rfl rfl rfl rfl) rfl rfl <| R rfl (pkF rfl rfl) <| R rfl (mv rfl) <| lSkip (gd rfl rfl rfl rfl) rfl rfl <| lSkip (gd rfl rfl rfl rfl) rfl rfl <| R rfl (pkF rfl rfl) <| R rfl (mv rfl) <| lSkip (gd rfl rfl rfl rfl) rfl rfl <| lSkip (gd rfl rfl rfl rfl) rfl rfl <| R rfl (pkF rfl rfl) <| R rfl (mv rfl) <| lSkip (gd rfl rfl rfl rfl) rfl rfl <| lSkip (gd rfl rfl rfl rfl) rfl rfl <| lSkip (gd rfl rfl rfl rfl) rfl rfl <| R rfl (pkF rfl rfl) <| R rfl (mv rfl) <| lSkip (gd rfl rfl rfl rfl) rfl rfl <| lSkip (gd rfl rfl rfl rfl) rfl rfl <| lSkip (gd rfl rfl rfl rfl) rfl rfl <| lSkip (gd rfl rfl rfl rfl) rfl rfl <| lSkip (gd rfl rfl rfl rfl) rfl rfl <| lSkip (gd rfl rfl rfl rfl) rfl rfl <| R rfl (pkF rfl rfl) <| R rfl (mv rfl) <| lSkip (gd rfl rfl rfl rfl) rfl rfl <| lSkip (gd rfl rfl rfl rfl) rfl rfl <| lSkip (gd rfl rfl rfl rfl) rfl rfl <| lSkip (gd rfl rfl rfl rfl) rfl rfl <| lSkip (gd rfl rfl rfl rfl) rfl rfl <| lSkip (gd rfl rfl rfl rfl) rfl rfl <| R rfl (pkF rfl rfl) <| R rfl (asg rfl) <| gNil <| eThen <| gRet <| eRet [] [] rfl (eE rfl <| eN) (rN)
  · skip
    refine lKn 10 rfl h8 <| lSkip (gd rfl rfl rfl rfl) rfl rfl <| lSkip (gd rfl rfl rfl rfl) rfl rfl <| lSkip (gd rfl rfl rfl rfl) rfl rfl <| R rfl (pkF rfl rfl) <| R rfl (mv rfl) <| lSkip (gd rfl rfl rfl rfl) rfl rfl <| lSkip (gd rfl rfl rfl rfl) rfl rfl <| lSkip (gd rfl rfl rfl rfl) rfl rfl <| lSkip (gd rfl rfl rfl rfl) rfl rfl <| lSkip (gd rfl rfl rfl rfl) rfl rfl <| R rfl (pkF rfl rfl) <| R rfl (mv rfl) <| lSkip (gd rfl rfl rfl rfl) rfl rfl <| lSkip (gd rfl rfl rfl rfl) rfl rfl <| R rfl (pkF rfl rfl) <| R rfl (mv rfl) <| lSkip (gd rfl rfl rfl rfl) rfl rfl <| lSkip (gd rfl rfl rfl rfl) rfl rfl <| R rfl (pkF rfl rfl) <| R rfl (mv rfl) <| lSkip (gd rfl rfl rfl rfl) rfl rfl <| lSkip (gd rfl rfl rfl rfl) rfl rfl <| R rfl (pkF rfl rfl) <| R rfl (mv rfl) <| lSkip (gd rfl rfl rfl rfl) rfl rfl <| lSkip (gd rfl rfl rfl rfl) rfl rfl <| lSkip (gd rfl rfl rfl rfl) rfl rfl <| R rfl (pkF rfl rfl) <| R rfl (mv rfl) <| lSkip (gd rfl rfl rfl rfl) rfl rfl <| lSkip (gd rfl rfl rfl rfl) rfl rfl <| lSkip (gd rfl rfl rfl rfl) rfl rfl <| lSkip (gd rfl rfl rfl rfl) rfl rfl <| lSkip (gd rfl rfl rfl rfl) rfl rfl <| lSkip (gd rfl rfl rfl rfl) rfl rfl <| R rfl (pkF rfl rfl) <| R rfl (mv rfl) <| lSkip (gd rfl rfl rfl rfl) rfl rfl <| lSkip (gd rfl rfl rfl rfl) rfl rfl <| lSkip (gd rfl rfl rfl rfl) rfl rfl <| lSkip (gd rfl rfl rfl rfl) rfl rfl <| lSkip (gd rfl rfl rfl rfl) rfl rfl <| lSkip (gd rfl rfl rfl rfl) rfl rfl <| R rfl (pkF rfl rfl) <| R rfl (asg rfl) <| gNil <| eThen <| gRet <| eRet [] [] rfl (eE rfl <| eN) (rN)
end Go.Proofs.Ytklfgpdfongaeaa
namespace Go.Proofs.Ytklfgpdfongaeaa
open Go Go.RowKit
set_option linter.unusedSimpArgs false
set_option linter.unusedVariables false
theorem readN_app {n : Nat} (hn : n < 18446744073709551616) (x : List UInt8) : readN (numBytes n ++ x) = (n, (numBytes n).length, 0) :=
  readN_some ((readNum_some_iff _ _ _).2 ⟨hn, rfl, by simp⟩)
theorem part_app (s x : List UInt8) (most : Int) (k n : Nat) (hk : 0 < k) (hs : s.length = k * n) (hn : n < 18446744073709551616) (hm : (n : Int) ≤ most) : partL (numBytes n ++ (s ++ x)) most k = (s, (numBytes n).length + s.length, 0) := by
  have h := readN_app hn (s ++ x)
  rw [partL_good (by omega)]
  · rw [h]
    simp only [List.drop_left, ← hs, List.take_left]
  · rw [h]
    simp only [List.length_append]
    intro hh
    rcases hh with hh | hh | hh
    · exact hh rfl
    · omega
    · have : ((numBytes n).length + (s.length + x.length) - (numBytes n).length) / k = (s.length + x.length) / k := by congr 1; omega
      rw [this] at hh
      have h2 : n ≤ (s.length + x.length) / k := (Nat.le_div_iff_mul_le hk).2 (by rw [Nat.mul_comm, ← hs]; omega)
      omega
theorem idsL_inj : ∀ (l m : List (Vector UInt8 32)), l.length = m.length → idsL l = idsL m → l = m
  | [], [], _, _ => rfl
  | a :: l, b :: m, hl, h => by
    have h1 : a.toList ++ idsL l = b.toList ++ idsL m := h
    obtain ⟨h2, h3⟩ := List.append_inj h1 (by simp)
    rw [idsL_inj l m (by simpa using hl) h3, show a = b from Vector.toList_inj.1 h2]
  | [], _ :: _, hl, _ => by simp at hl
  | _ :: _, [], hl, _ => by simp at hl
theorem idsOf_idsL (l : List (Vector UInt8 32)) : idsOf (idsL l) l.length = l := by
  refine idsL_inj _ _ (idsOf_len _ _) ?_
  rw [idsL_of _ _ (by rw [idsL_len]; omega), List.take_of_length_le (by rw [idsL_len]; omega)]
theorem rdIDs_app (l : List (Vector UInt8 32)) (x : List UInt8) (h : l.length ≤ 40) (hi : incr l = true) : rdIDs (numBytes l.length ++ (idsL l ++ x)) 40 = (l, (numBytes l.length).length + (idsL l).length, 0) := by
  have hp := part_app (idsL l) x 40 32 l.length (by omega) (idsL_len l) (by omega) (by omega)
  unfold rdIDs
  rw [hp]
  simp only [idsL_len, Nat.mul_div_cancel_left _ (show 0 < 32 by omega), idsOf_idsL, hi, if_true]
  rw [if_neg (by simp)]
theorem rdOps_app : ∀ (ops : List (List UInt8)) (x : List UInt8), ops.all short = true → rdOps ops.length (opsL ops ++ x) = some (ops, x)
  | [], x, _ => rfl
  | b :: ops, x, h => by
    simp only [List.all_cons, Bool.and_eq_true] at h
    have hb : b.length ≤ 400 := by have := h.1; unfold short at this; simp at this; omega
    have hp := part_app b (opsL ops ++ x) 400 1 b.length (by omega) (by omega) (by omega) (by omega)
    have e : opsL (b :: ops) ++ x = numBytes b.length ++ (b ++ (opsL ops ++ x)) := by rw [opsL_cons]; simp
    rw [e]
    simp only [List.length_cons, rdOps]
    rw [hp]
    rw [if_neg (by simp)]
    have hd : (numBytes b.length ++ (b ++ (opsL ops ++ x))).drop ((numBytes b.length).length + b.length) = opsL ops ++ x := by
      rw [← List.append_assoc, ← List.length_append, List.drop_left]
    rw [hd, rdOps_app ops x h.2]
    rfl
def bodyF (f : api_Frame) : List UInt8 := if f.Kind = 2 ∨ f.Kind = 3 ∨ f.Kind = 4 then numBytes f.IDs.length ++ idsL f.IDs else if f.Kind = 5 then numBytes f.Ops.length ++ opsL f.Ops else numBytes f.N.toNat
theorem enc_body (f : api_Frame) : encF f = f.Kind :: bodyF f := rfl
theorem raw_app (f : api_Frame) (h : goodF f = true) (x : List UInt8) : rawF f.Kind (bodyF f ++ x) = some f := by
  unfold rawF bodyF
  rcases kinds f.Kind with k | k | k | k
  · rw [if_pos k, if_pos k]
    rw [goodF_l k] at h
    simp only [Bool.and_eq_true, decide_eq_true_eq] at h
    obtain ⟨⟨⟨h1, h2⟩, h3⟩, h4⟩ := h
    rw [List.append_assoc, rdIDs_app _ _ h3 h4]
    simp only [if_true]
    exact congrArg some (frame_ext rfl h1.symm rfl h2.symm)
  · have k0 : ¬ (f.Kind = 2 ∨ f.Kind = 3 ∨ f.Kind = 4) := by rw [k]; decide
    rw [if_neg k0, if_neg k0, if_pos k, if_pos k]
    rw [goodF_5 k] at h
    simp only [Bool.and_eq_true, decide_eq_true_eq] at h
    obtain ⟨⟨⟨⟨h1, h2⟩, h3⟩, h4⟩, h5⟩ := h
    rw [List.append_assoc, readN_app (by omega)]
    rw [if_neg (by simp only []; omega)]
    simp only [List.drop_left, rdOps_app _ _ h4, Option.map_some]
    exact congrArg some (frame_ext rfl h1.symm h2.symm rfl)
  · have k0 : ¬ (f.Kind = 2 ∨ f.Kind = 3 ∨ f.Kind = 4) := by rcases k with e | e <;> rw [e] <;> decide
    have k1 : f.Kind ≠ 5 := by rcases k with e | e <;> rw [e] <;> decide
    rw [if_neg k0, if_neg k0, if_neg k1, if_neg k1]
    rw [goodF_n k] at h
    simp only [Bool.and_eq_true, decide_eq_true_eq] at h
    rw [readN_app f.N.toNat_lt, if_pos rfl]
    exact congrArg some (frame_ext rfl (by simp) h.1.symm h.2.symm)
  · exfalso
    unfold goodF at h
    simp only [if_neg k.1, if_neg k.2.1, if_neg k.2.2] at h
    cases h
theorem parse_enc (f : api_Frame) (h : goodF f = true) : parseF (encF f) = some f := by
  have := raw_app f h []
  rw [List.append_nil] at this
  rw [enc_body]
  unfold parseF
  simp only [this]
  rw [if_pos ⟨h, enc_body f⟩]
theorem enc_prefix {f g : api_Frame} (hf : goodF f = true) (hg : goodF g = true) {x : List UInt8} (h : encF f = encF g ++ x) : f = g ∧ x = [] := by
  have h1 := raw_app f hf []
  have h2 := raw_app g hg x
  rw [enc_body, enc_body, List.cons_append, List.cons.injEq] at h
  rw [List.append_nil, h.2, h.1, h2] at h1
  have e : f = g := (Option.some.inj h1).symm
  refine ⟨e, ?_⟩
  have := h.2
  rw [e] at this
  have hl := congrArg List.length this
  simp at hl
  exact hl
theorem parse_more (f : api_Frame) (h : goodF f = true) (x : List UInt8) (hx : x ≠ []) (hl : (encF f ++ x).length ≤ 2600) : parseF (encF f ++ x) = none := by
  cases hp : parseF (encF f ++ x) with
  | none => rfl
  | some g =>
    obtain ⟨h1, h2, h3⟩ := parse_ok hl hp
    exact absurd (enc_prefix h2 h h3).2 hx
theorem is_law (f : api_Frame) (b : List UInt8) (ok : okF f) (h : goodF f = true) (e : encF f = b) : braidlaw07_is f b = some true := by
  have hs := encF_short h
  subst e
  unfold braidlaw07_is
  rw [encode_eq f ok, parse_eq _ (by omega), parse_enc f h, h]
  simp only [bs, outF, if_true]
  rw [if_pos (by rfl), sameB_eq _ _ (by omega)]
  simp only [bs, decide_true, if_true]
  rw [if_pos (by rfl), same7_eq f f (by have := ok.1; omega) (by have := ok.2.1; omega) (fun x hx => by have := ok.2.2 x hx; omega)]
  simp [bs]
theorem refused7 (b : List UInt8) (hb : b.length ≤ 2600) (h : parseF b = none) : braidlaw07_refused b = some true := by
  unfold braidlaw07_refused
  rw [parse_eq b hb, h]
  rfl
def ris (n : Nat) : List (Vector UInt8 32) := (List.range n).map fun (i : Nat) => vset (Vector.replicate 32 0) ((0 : Nat) : Int) (UInt8.ofInt (i : Int))
theorem ris_len (n : Nat) : (ris n).length = n := by simp [ris]
theorem rising7 (n : Nat) (hn : n ≤ 100) : braidlaw07_rising (n : Int) = some (ris n) := by
  unfold braidlaw07_rising
  have := iter_run (F := braidlaw07_rising_L0 (n : Int)) (b := ris n) n (fun i => (ris i, (i : Int))) (fun i hi => by
    unfold braidlaw07_rising_L0
    rw [if_pos (by simp; omega)]
    simp only []
    rw [app_eq (by simp [ris_len]; omega)]
    simp only [bs, w64_nat (show i < 9223372036854775807 by omega)]
    simp [ris, List.range_succ]) (by
    unfold braidlaw07_rising_L0
    rw [if_neg (by simp)])
  have e : iter (braidlaw07_rising_L0 (n : Int)) ([], 0) = some (ris n) := this
  rw [e]
  rfl
theorem inc41 : incr (ris 41) = true := by decide +kernel
theorem nb300 : numBytes 300 = [249, 1, 44] := by simp [numBytes, digits]
theorem nb_0 : numBytes 0 = [0] := by simp [numBytes]
theorem nb_2 : numBytes 2 = [2] := by simp [numBytes]
theorem ok_small (k : UInt8) (n : UInt64) : okF ⟨k, n, [], []⟩ := ⟨by simp, by simp, by simp⟩
theorem no70 : parseF [7, 0] = none := by
  have : (⟨7, 0, [], []⟩ : api_Frame) = ⟨7, 0, [], []⟩ := rfl
  have h1 : rawF 7 [0] = some ⟨7, 0, [], []⟩ := by decide +kernel
  have h2 : goodF ⟨7, 0, [], []⟩ = false := by decide +kernel
  unfold parseF
  simp only [h1, h2]
  simp
theorem no1 : parseF [1] = none := by
  have h1 : rawF 1 [] = none := by decide +kernel
  unfold parseF
  simp only [h1]
theorem alive7 : braidlaw07_alive = some true := by
  unfold braidlaw07_alive
  rw [show (41 : Int) = ((41 : Nat) : Int) from rfl, rising7 41 (by omega)]
  simp only [bs]
  have hs : splitF (ris 41) 2 = (splitL (ris 41) 2, 0) := by
    unfold splitF
    rw [if_neg (not_not_intro (.inl rfl)), if_neg (by rw [ris_len]; omega), if_neg (by rw [inc41]; simp)]
  have hl : splitL (ris 41) 2 = [⟨2, 0, (ris 41).take 40, []⟩, ⟨2, 0, (ris 41).drop 40, []⟩] := by
    unfold splitL; rw [if_pos (by rw [ris_len]; omega)]
  rw [split_eq _ _ (by rw [ris_len]; omega), hs, hl]
  simp only [bs]
  rw [is_law ⟨1, 300, [], []⟩ _ (ok_small _ _) (by decide +kernel) (by rw [encF_n (.inl rfl)]; show (1 : UInt8) :: numBytes 300 = _; rw [nb300])]
  simp only [bs, if_true]
  rw [is_law ⟨3, 0, [], []⟩ _ (ok_small _ _) (by decide +kernel) (by rw [encF_l (.inr (.inl rfl))]; show (3 : UInt8) :: (numBytes 0 ++ []) = _; rw [nb_0]; rfl)]
  simp only [bs, if_true]
  rw [is_law ⟨5, 0, [], [[97, 98], []]⟩ _ ⟨by simp, by simp, by simp⟩ (by
      rw [goodF_5 rfl]
      show (decide ((0 : UInt64) = 0) && decide (([] : List (Vector UInt8 32)) = []) && decide (2 ≤ 8) && [[97, 98], []].all short && decide (1 + (numBytes 2).length + ((numBytes 2 ++ [97, 98]) ++ ((numBytes 0 ++ []) ++ [])).length ≤ 2000)) = true
      rw [nb_0, nb_2]
      decide +kernel) (by
      rw [encF_5 rfl]
      show (5 : UInt8) :: (numBytes 2 ++ ((numBytes 2 ++ [97, 98]) ++ ((numBytes 0 ++ []) ++ []))) = _
      rw [nb_0, nb_2]; rfl)]
  simp only [bs, if_true]
  rw [refused7 _ (by simp) no70]
  simp only [bs, if_true]
  rw [refused7 _ (by simp) no1]
  simp only [bs, if_true]
  rw [if_pos (by rfl), if_pos (by rfl), show (0 : Int) = ((0 : Nat) : Int) from rfl, idx_nat (by simp)]
  simp only [bs]
  rw [if_pos (by simp [ris_len]), show (1 : Int) = ((1 : Nat) : Int) from rfl, idx_nat (by simp)]
  simp [bs, ris_len]
end Go.Proofs.Ytklfgpdfongaeaa
namespace Go.Proofs.Ytklfgpdfongaeaa
open Go Go.RowKit
set_option linter.unusedSimpArgs false
set_option linter.unusedVariables false
theorem list_rd {α : Type} {R : Rep α} {T : TypeId} {b : List α} {S S' : Blk} {w : World} {v : Value} (h : (Cont.list R T b).holds S w v) (hst : Stay S S' w w) (hb : ∀ bb, rblk v = some bb → S' bb) : (Ent.rd (sliceR R) b).holds S' w v := by
  obtain ⟨xs, k3, k4⟩ := list_owns h
  obtain ⟨p, c, rfl⟩ := slice_form k3
  exact ⟨_, ⟨p, c, xs, rfl, Rd.of_own k3, k4.mono hst, fun _ bb hbb => hb bb (by rw [rblk_own, sblk_own]; exact hbb)⟩, rfl⟩
section
variable {P : Program} {Γ : Ctx} {l : Slots} {res : Res} {o : Oper}
def Pop (P : Program) (Γ : Ctx) (l : Slots) (res : Res) (o : Oper) (e : Ent) : Prop :=
  ∀ a w, Sta Γ l res a w → o.wp P a w (fun a' w' => Ext w w' ∧ ∃ v, a' = a.put o.dst v ∧ e.holds (Shr Γ.H res w') w' v) (fun _ _ _ => False)
theorem pRun {e : Ent} (h : Run Ext P Γ l res o e) : Pop P Γ l res o e := fun a w ha => by
  obtain ⟨v, h1, h2⟩ := h a w ha
  unfold Oper.wp
  rw [h1 w Ext.rfl']
  exact ⟨Ext.rfl', v, rfl, h2⟩
theorem pEff {α : Type} {R : Rep α} {T : TypeId} {b : List α} {r : Nat} (hr : lr res r = none) (h : Eff P Γ l res o r (fun u => (u, .list R T b))) : Pop P Γ l res o (.rd (sliceR R) b) := fun a w ha => by
  obtain ⟨w', u, h1, ⟨h2, h3⟩, -, wr, h4, h5⟩ := h a w ha
  unfold Oper.wp
  rw [h1]
  have hwr : wr = none := by
    cases wr with
    | none => rfl
    | some b => obtain ⟨v0, c0, h6, _⟩ := h5 b rfl; rw [hr] at h6; cases h6
  subst hwr
  have hsub : ∀ r' v' c', lr res r' = some (v', c') → r ≠ r' := fun r' v' c' h e => by subst e; rw [hr] at h; cases h
  have hown : lr ((r, some (u, Cont.list R T b)) :: res) r = some (u, .list R T b) := lr_cons.trans (if_pos rfl)
  have hst : Stay (Shr Γ.H ((r, some (u, Cont.list R T b)) :: res) w') (Shr Γ.H res w') w' w' := fun bb hb => ⟨⟨hb.1, fun r' v' c' h => hb.2.1 r' v' c' (lr_cons.trans ((if_neg (hsub _ _ _ h)).trans h)), hb.2.2⟩, rfl⟩
  refine ⟨⟨h4.os, h4.tape, h4.output, h4.size, fun b hb => h4.block b hb (by simp)⟩, u, rfl, list_rd (h2.conts r _ _ hown) hst (fun bb hb => ?_)⟩
  refine ⟨(h2.conts r _ _ hown).lt hb, fun r' v' c' h e => ?_, fun hh => h2.own r _ _ hown bb hb (h2.hid bb hh)⟩
  exact h2.excl r _ _ r' v' c' hown (lr_cons.trans ((if_neg (hsub _ _ _ h)).trans h)) (hsub _ _ _ h) bb hb e
inductive DatE : Post → Ent → Prop
  | rd {e : Ent} : DatE ⟨[e], []⟩ e
  | own {α : Type} {R : Rep α} {T : TypeId} {b : List α} {v : Value} {k : Nat} : DatE ⟨[.val v], [(k, some (v, .list R T b))]⟩ (.rd (sliceR R) b)
theorem pCall {σ : Type} {f : FuncId} {F : Func} {bd : Code} {d : Tmp} {args : List Operand} {ats : Array TypeId} {ty : TypeId} {pos : String} {after : Array Edge} {g : Option (Nat × Bool)} {pin : List Ent} {m1 : Option σ} {s : σ} {q : σ → (Nat → Value) → Post} {e : Ent} (hm : m1 = some s)
    (hF : P.funcs[f]? = some F) (hB : F.body = some bd) (hnm : (F.name == "runtime.NumGoroutine") = false) (hS : Spec P f pin [] m1 q) (hA : ArgsQ l args pin) (hE : ∀ nv, DatE (q s nv) e) :
    Pop P Γ l res ⟨some d, .call ⟨.value (.func f), args.toArray, ats⟩, ty, pos, after, g⟩ e := fun a w ha => by
  have hrun : (execOp a.eval ⟨some d, .call ⟨.value (.func f), args.toArray, ats⟩, ty, pos, after, g⟩).run P w = .ok (.enter f (args.map a.eval).toArray) w := by
    simp [execOp, resolve, Act.eval, Deferred.ofValue, invoke, run_callF hF hB hnm]
  unfold Oper.wp; rw [hrun]
  simp only [Oper.upon]
  have hH : ∀ b, (fun b => Γ.H b ∨ ∃ r v c, lr res r = some (v, c) ∧ ([] : List Nat).contains r = false ∧ rblk v = some b) b ↔ Γ.H b ∨ ∃ r v c, lr res r = some (v, c) ∧ ([] : List Nat).contains r = false ∧ rblk v = some b := fun _ => Iff.rfl
  obtain ⟨h1, h2⟩ := ResOk.of ha (rin := []) (ns := []) trivial hH
  refine (hS s hm _ _ w (ArgsQ.get ha h2 hA) h1).mono fun e' w' hR => ?_
  obtain ⟨nv, vs, rfl, hp⟩ := hR
  have hext : Ext w w' := ⟨hp.keep.os, hp.keep.tape, hp.keep.output, hp.keep.size, fun b hb => hp.keep.block b ⟨hb, fun ⟨r, v, c, h, _⟩ => by cases h⟩⟩
  refine ⟨hext, _, rfl, ?_⟩
  have hlt : ∀ r v c b, lr res r = some (v, c) → rblk v = some b → b < w.heap.size := fun r v c b h3 h4 => (ha.conts r v c h3).lt h4
  have hD := hE nv
  generalize q s nv = Q at hp hD
  cases hD with
  | rd =>
    match vs, hp.ret with
    | [u], ⟨h3, _⟩ =>
      refine e.mono (fun b hb => ⟨⟨hb.1, fun r v c h4 h5 => hb.2.2 (.inr ⟨r, v, c, h4, rfl, h5⟩), fun hh => hb.2.2 (.inl hh)⟩, rfl⟩) h3
  | @own α R T b v k =>
    match vs, hp.ret with
    | [u], ⟨⟨h3, _⟩, _⟩ =>
      have hl : lr [(k, some (v, Cont.list R T b))] k = some (v, .list R T b) := lr_cons.trans (if_pos rfl)
      show (Ent.rd (sliceR R) b).holds _ _ u
      rw [h3]
      refine list_rd (hp.conts k _ _ hl) (fun bb hb => ⟨⟨hb.1, fun r v' c h4 h5 => hb.2.2 (.inr ⟨r, v', c, h4, rfl, h5⟩), fun hh => hb.2.2 (.inl hh)⟩, rfl⟩) (fun bb hb => ?_)
      have hnew : w.heap.size ≤ bb := by
        rcases hp.own k _ _ hl bb hb with h6 | ⟨r, v', c, h6, _⟩
        · exact h6
        · cases h6
      exact ⟨(hp.conts k _ _ hl).lt hb, fun r v' c h4 h5 => by have := hlt r v' c bb h4 h5; omega, fun hh => by have := (ha.old_lt (ha.hid bb hh)); omega⟩
theorem wp_to {a : Act} {w : World} {K K' : Act → World → Prop} {Q : Exit → Act → World → Prop} (h : o.wp P a w K (fun _ _ _ => False)) (hk : ∀ a w, K a w → K' a w) : o.wp P a w K' Q := by
  unfold Oper.wp at h ⊢
  generalize (execOp a.eval o).run P w = r at h ⊢
  cases r with
  | ok x w' =>
    cases x <;> simp only [Oper.upon] at h ⊢ <;>
      first
        | exact hk _ _ h
        | exact Calls.mono h (fun e w'' he => by
            cases e with
            | returned v => exact hk _ _ he
            | panicked ch => exact he.elim
            | outgrown => obtain ⟨_, _, h1⟩ := he; exact h1.elim)
        | exact Rows.mono h (fun _ _ he => hk _ _ he)
        | exact h
  | halt x w' => cases x <;> simp only [Oper.upon] at h ⊢ <;> first | exact h.elim | exact h
end
def nodupB : List Nat → Bool
  | [] => true
  | x :: l => !l.contains x && nodupB l
def parChk (os : List Oper) (ds : List Nat) (js : List (List Nat)) (ks : List Nat) (n : Nat) : Bool :=
  Nat.beq os.length ds.length && Nat.beq js.length ds.length && nodupB (ds ++ ks) && ds.all (Nat.blt · n) &&
  (os.zip (ds.zip js)).zipIdx.all fun x => (match x.1.1.dst, x.1.1.guard with
    | some d, none => Nat.beq d x.1.2.1
    | _, _ => false) && x.1.1.after.all (fun e => Nat.blt e.on x.2) && x.1.2.2.all (fun j => x.1.1.after.any fun e => Nat.beq e.on j && Region.binds .any e)
def PopAll (P : Program) (Γ : Ctx) (l0 : Slots) (res : Res) (D : Slots) : List Oper → List Ent → List (List Nat) → Prop
  | o :: os, e :: es, j :: js => Pop P Γ (j.filterMap (D[·]?) ++ l0) res o e ∧ PopAll P Γ l0 res D os es js
  | _, _, _ => True
theorem PopAll.get {P : Program} {Γ : Ctx} {l0 : Slots} {res : Res} {D : Slots} : ∀ {os : List Oper} {es : List Ent} {js : List (List Nat)} {i : Nat} {o : Oper} {e : Ent} {j : List Nat}, PopAll P Γ l0 res D os es js → os[i]? = some o → es[i]? = some e → js[i]? = some j → Pop P Γ (j.filterMap (D[·]?) ++ l0) res o e
  | [], _, _, i, _, _, _, _, h, _, _ => by simp at h
  | _ :: _, [], _, i, _, _, _, _, _, h, _ => by simp at h
  | _ :: _, _ :: _, [], i, _, _, _, _, _, _, h => by simp at h
  | o :: os, e :: es, j :: js, 0, _, _, _, h, h1, h2, h3 => by
    simp only [List.getElem?_cons_zero, Option.some.injEq] at h1 h2 h3
    subst h1 h2 h3; exact h.1
  | o :: os, e :: es, j :: js, i + 1, _, _, _, h, h1, h2, h3 => PopAll.get h.2 (by simpa using h1) (by simpa using h2) (by simpa using h3)
theorem nodupB_get : ∀ {l : List Nat} {i j x : Nat}, nodupB l = true → l[i]? = some x → l[j]? = some x → i = j
  | [], i, _, _, _, h, _ => by simp at h
  | y :: l, 0, 0, _, _, _, _ => rfl
  | y :: l, 0, j + 1, x, h, h1, h2 => by
    simp only [List.getElem?_cons_zero, Option.some.injEq, List.getElem?_cons_succ] at h1 h2
    subst h1
    have := List.mem_of_getElem? h2
    simp only [nodupB, Bool.and_eq_true, Bool.not_eq_true', List.contains_eq_mem, decide_eq_false_iff_not] at h
    exact absurd this h.1
  | y :: l, i + 1, 0, x, h, h1, h2 => by
    simp only [List.getElem?_cons_zero, Option.some.injEq, List.getElem?_cons_succ] at h1 h2
    subst h2
    have := List.mem_of_getElem? h1
    simp only [nodupB, Bool.and_eq_true, Bool.not_eq_true', List.contains_eq_mem, decide_eq_false_iff_not] at h
    exact absurd this h.1
  | y :: l, i + 1, j + 1, x, h, h1, h2 => by
    simp only [List.getElem?_cons_succ] at h1 h2
    simp only [nodupB, Bool.and_eq_true] at h
    rw [nodupB_get h.2 h1 h2]
theorem lk_get : ∀ {l : Slots} {t : Nat} {e : Ent}, lk l t = some e → ∃ i : Nat, l[i]? = some (t, e)
  | [], _, _, h => by cases h
  | (k, x) :: l, t, e, h => by
    rw [lk_cons] at h
    split at h
    · rename_i hh; subst hh; cases h; exact ⟨0, rfl⟩
    · obtain ⟨i, hi⟩ := lk_get h; exact ⟨i + 1, by simpa using hi⟩
theorem lk_appE {l l' : Slots} {t : Nat} {e : Ent} (h : lk (l ++ l') t = some e) : lk l t = some e ∨ lk l' t = some e := by
  induction l with
  | nil => exact .inr h
  | cons x l ih =>
    obtain ⟨k, u⟩ := x
    rw [List.cons_append, lk_cons] at h
    rw [lk_cons]
    split
    · rename_i hh; rw [if_pos hh] at h; exact .inl h
    · rename_i hh; rw [if_neg hh] at h; exact ih h
theorem count_lt {p q : Nat → Bool} : ∀ {l : List Nat} {x : Nat}, x ∈ l → p x = true → q x = false → (∀ y, q y = true → p y = true) → (l.filter q).length < (l.filter p).length
  | [], _, h, _, _, _ => by simp at h
  | y :: l, x, h, hp, hq, hm => by
    have hle : ∀ l : List Nat, (l.filter q).length ≤ (l.filter p).length := fun l => by
      induction l with
      | nil => simp
      | cons z l ih =>
        simp only [List.filter_cons]
        cases hqz : q z with
        | true => simp [hm z hqz]; exact ih
        | false => cases p z <;> simp <;> omega
    simp only [List.filter_cons]
    rcases List.mem_cons.1 h with rfl | h
    · simp only [hp, hq, if_true, Bool.false_eq_true, if_false, List.length_cons]
      have := hle l; omega
    · have ih := count_lt h hp hq hm
      cases hqy : q y with
      | true => simp [hm y hqy]; exact ih
      | false => cases p y <;> simp <;> omega
section
variable {ρ : Type} {ro : Option Nat} {P : Program} {n : Nat} {K H : Blk} {w0 : World} {dsd : List Deferred} {l0 : Slots} {res : Res} {Q : ρ → Exit → Act → World → Prop} {m : Option ρ}
theorem gPar {id : Nat} {os : List Oper} (D : Slots) (js : List (List Nat)) (hm : P.follows .mixedOrders = true) (hc : parChk os (D.map Prod.fst) js (l0.map Prod.fst) n = true) (h : PopAll P ⟨n, K, H, w0, dsd⟩ l0 res D os (D.map Prod.snd) js)
    (k : GE (Sta ⟨n, K, H, w0, dsd⟩ (D ++ l0) res) .normal Q m) (hd : noDefer os = true := by rfl) : G ro P (Sta ⟨n, K, H, w0, dsd⟩ l0 res) (.region id os.toArray true) Q m := fun a w ha r hr => by
  obtain ⟨Γ, hΓ⟩ : ∃ Γ : Ctx, Γ = ⟨n, K, H, w0, dsd⟩ := ⟨_, rfl⟩
  rw [← hΓ] at h k ha
  have hn : Γ.n = n := by rw [hΓ]
  unfold parChk at hc
  simp only [Bool.and_eq_true] at hc
  obtain ⟨⟨⟨⟨c1, c2⟩, c3⟩, c4⟩, c5⟩ := hc
  have c1 : os.length = D.length := by simpa using Nat.eq_of_beq_eq_true c1
  have c2 : js.length = D.length := by simpa using Nat.eq_of_beq_eq_true c2
  have facts : ∀ (i : Nat) (o : Oper) (de : Nat × Ent) (j : List Nat), os[i]? = some o → D[i]? = some de → js[i]? = some j → (o.dst = some de.1 ∧ o.guard = none) ∧ (∀ e ∈ o.after, e.on < i) ∧ ∀ x ∈ j, ∃ e ∈ o.after, e.on = x ∧ Region.binds .any e = true := by
    intro i o de j h1 h2 h3
    have hz : ((os.zip ((D.map Prod.fst).zip js)).zipIdx)[i]? = some ((o, de.1, j), i) := by
      rw [List.getElem?_zipIdx]
      simp [List.getElem?_zip_eq_some, h1, h2, h3]
    have := List.all_eq_true.1 c5 _ (List.mem_of_getElem? hz)
    simp only [Bool.and_eq_true] at this
    obtain ⟨⟨t1, t2⟩, t3⟩ := this
    refine ⟨?_, fun e he => ?_, fun x hx => ?_⟩
    · cases hd : o.dst with
      | none => rw [hd] at t1; cases t1
      | some d =>
        cases hg : o.guard with
        | none => rw [hd, hg] at t1; exact ⟨congrArg some (Nat.eq_of_beq_eq_true t1), rfl⟩
        | some g => rw [hd, hg] at t1; cases t1
    · exact Eq.mp Nat.blt_eq (Array.all_eq_true_iff_forall_mem.1 t2 e he)
    · have := List.all_eq_true.1 t3 x hx
      rw [← Array.any_toList] at this
      obtain ⟨e, he, h4⟩ := List.any_eq_true.1 this
      have he := Array.mem_toList_iff.1 he
      simp only [Bool.and_eq_true] at h4
      exact ⟨e, he, Nat.eq_of_beq_eq_true h4.1, h4.2⟩
  have hsz : os.toArray.size = D.length := by simp [c1]
  let Inv : Array Bool → Act → World → Prop := fun listed a w => listed.size = D.length ∧ Sta Γ l0 res a w ∧ ∀ (j : Nat) (de : Nat × Ent), D[j]? = some de → listed.getD j true = true → ∃ v, a.tmps[de.1]? = some v ∧ de.2.holds (Shr Γ.H res w) w v
  have hall : ∀ listed : Array Bool, listed.size = D.length → Region.ready .any os.toArray listed = [] → ∀ j, j < D.length → listed.getD j true = true := by
    intro listed hls hre j
    induction j using Nat.strongRecOn with
    | _ j ih =>
      intro hj
      refine Classical.byContradiction fun hno => ?_
      have hno : listed.getD j true = false := by simpa using hno
      obtain ⟨o, ho⟩ : ∃ o, os[j]? = some o := ⟨_, List.getElem?_eq_getElem (by omega)⟩
      obtain ⟨de, hde⟩ : ∃ o, D[j]? = some o := ⟨_, List.getElem?_eq_getElem (by omega)⟩
      obtain ⟨jj, hjj⟩ : ∃ o, js[j]? = some o := ⟨_, List.getElem?_eq_getElem (by omega)⟩
      have : j ∈ Region.ready .any os.toArray listed := mem_ready.2 ⟨hno, o, by simpa using ho, fun e he hb => by
        have hlt := (facts j o de jj ho hde hjj).2.1 e he
        have := ih e.on hlt (by omega)
        simp only [Array.getD_eq_getD_getElem?] at this ⊢
        rw [Array.getElem?_eq_getElem (by omega)] at this ⊢
        exact this⟩
      rw [hre] at this; cases this
  have hfin : ∀ listed a w, Inv listed a w → Region.ready .any os.toArray listed = [] → Q r .normal a w := by
    rintro listed a w ⟨h1, h2, h3⟩ hre
    refine k a w ⟨h2.size, h2.defers, fun t e ht => ?_, h2.conts, h2.excl, h2.own, h2.keep, h2.old, h2.hid⟩ r hr
    rcases lk_appE ht with ht | ht
    · obtain ⟨i, hi⟩ := lk_get ht
      exact h3 i (t, e) hi (hall listed h1 hre i (List.getElem?_eq_some_iff.1 hi).1)
    · exact h2.slots t e ht
  have main : ∀ (fuel : Nat) (listed : Array Bool) (a : Act) (w : World), Inv listed a w → ((List.range D.length).filter fun j => !listed.getD j true).length ≤ fuel → wpAny P .any os.toArray (Q r) fuel listed a w := by
    intro fuel
    induction fuel with
    | zero =>
      intro listed a w hI hc0
      have hre : Region.ready .any os.toArray listed = [] := by
        refine List.eq_nil_iff_forall_not_mem.2 fun j hj => ?_
        obtain ⟨h1, o, ho, _⟩ := mem_ready.1 hj
        have hjl : j < D.length := by have := (Array.getElem?_eq_some_iff.1 ho).1; omega
        have hmem : j ∈ (List.range D.length).filter fun j => !listed.getD j true := by simp only [List.mem_filter, List.mem_range, h1]; exact ⟨hjl, rfl⟩
        have := List.length_pos_of_mem hmem
        omega
      exact ⟨hre, hfin _ _ _ hI hre⟩
    | succ fuel ih =>
      intro listed a w hI hc0
      refine ⟨hfin _ _ _ hI, fun i hi => ?_⟩
      obtain ⟨h1, o, ho, hdeps⟩ := mem_ready.1 hi
      have hil : i < D.length := by have := (Array.getElem?_eq_some_iff.1 ho).1; omega
      have ho' : os[i]? = some o := by simpa using ho
      obtain ⟨de, hde⟩ : ∃ o, D[i]? = some o := ⟨_, List.getElem?_eq_getElem hil⟩
      obtain ⟨jj, hjj⟩ : ∃ o, js[i]? = some o := ⟨_, List.getElem?_eq_getElem (by omega)⟩
      obtain ⟨⟨f1, f2⟩, f3, f4⟩ := facts i o de jj ho' hde hjj
      obtain ⟨hls, hS, hD⟩ := hI
      have hpop := h.get ho' (e := de.2) (by simp [hde]) hjj
      have hpre : Sta Γ (jj.filterMap (D[·]?) ++ l0) res a w := by
        refine ⟨hS.size, hS.defers, fun t e ht => ?_, hS.conts, hS.excl, hS.own, hS.keep, hS.old, hS.hid⟩
        rcases lk_appE ht with ht | ht
        · obtain ⟨q, hq⟩ := lk_get ht
          have hmem := List.mem_of_getElem? hq
          obtain ⟨x, hx, hxe⟩ := List.mem_filterMap.1 hmem
          obtain ⟨ed, hed, hon, hb⟩ := f4 x hx
          have hl := hdeps ed hed hb
          rw [hon] at hl
          refine hD x (t, e) hxe ?_
          have hxl : x < D.length := (List.getElem?_eq_some_iff.1 hxe).1
          simp only [Array.getD_eq_getD_getElem?] at hl ⊢
          rw [Array.getElem?_eq_getElem (by omega)] at hl ⊢
          exact hl
        · exact hS.slots t e ht
      unfold wpOp
      rw [ho]
      have hw : Region.wanted o (yielded os.toArray a.tmps) = true := by unfold Region.wanted; rw [f2]
      simp only [hw, if_true]
      refine .inl (wp_to (hpop a w hpre) ?_)
      rintro a' w' ⟨hext, v, rfl, hv⟩
      rw [f1]
      have hdn : de.1 < Γ.n := by
        rw [hn]
        exact Eq.mp Nat.blt_eq (List.all_eq_true.1 c4 de.1 (List.mem_map.2 ⟨de, List.mem_of_getElem? hde, rfl⟩))
      have hext2 := hS.ext hext
      have hput : (a.put (some de.1) v).tmps[de.1]? = some v := by simp [Act.put, hS.size, hdn]
      have hoth : ∀ t, t ≠ de.1 → (a.put (some de.1) v).tmps[t]? = a.tmps[t]? := fun t ht => by simp [Act.put, Array.getElem?_setIfInBounds_ne (Ne.symm ht)]
      have hget : ∀ i : Nat, (D.map Prod.fst ++ l0.map Prod.fst)[i]? = (D ++ l0)[i]?.map Prod.fst := fun i => by rw [← List.map_append, List.getElem?_map]
      refine ih _ _ _ ⟨by simp [hls], ⟨by simp [Act.put, hS.size], by simp [Act.put, hS.defers], fun t e ht => ?_, hext2.conts, hext2.excl, hext2.own, hext2.keep, hext2.old, hext2.hid⟩, fun j dj hj hlj => ?_⟩ ?_
      · obtain ⟨u, g1, g2⟩ := hext2.slots t e ht
        refine ⟨u, ?_, g2⟩
        rw [hoth t ?_]; exact g1
        intro hte
        obtain ⟨q, hq⟩ := lk_get ht
        have e1 : (D.map Prod.fst ++ l0.map Prod.fst)[i]? = some de.1 := by rw [List.getElem?_append_left (by simpa using hil)]; simp [hde]
        have e2 : (D.map Prod.fst ++ l0.map Prod.fst)[D.length + q]? = some de.1 := by
          rw [List.getElem?_append_right (by simp)]; simp [hq, hte]
        have := nodupB_get c3 e1 e2
        omega
      · by_cases hij : j = i
        · subst hij
          rw [hde] at hj; cases hj
          exact ⟨v, hput, hv⟩
        · have hlj' : listed.getD j true = true := by rw [getD_set_ne true (Ne.symm hij)] at hlj; exact hlj
          obtain ⟨u, g1, g2⟩ := hD j dj hj hlj'
          refine ⟨u, ?_, dj.2.mono (Shr.ext hext) g2⟩
          rw [hoth dj.1 ?_]; exact g1
          intro hte
          have e1 : (D.map Prod.fst ++ l0.map Prod.fst)[i]? = some de.1 := by rw [List.getElem?_append_left (by simpa using hil)]; simp [hde]
          have e2 : (D.map Prod.fst ++ l0.map Prod.fst)[j]? = some de.1 := by rw [List.getElem?_append_left (by simpa using (List.getElem?_eq_some_iff.1 hj).1)]; simp [hj, hte]
          exact hij (nodupB_get c3 e2 e1)
      · have := count_lt (p := fun j => !listed.getD j true) (q := fun j => !(listed.setIfInBounds i true).getD j true) (l := List.range D.length) (List.mem_range.2 hil) (by simp only [h1]; rfl) (by simp [hls, hil]) (fun y hy => by
          by_cases hiy : i = y
          · subst hiy; simp only [h1]; rfl
          · simp only [getD_set_ne true hiy] at hy; exact hy)
        omega
  have hE : Ext w { w with drawn := w.drawn + 1 } := Ext.rfl'.dr
  refine wpM_any hm (by simpa using hd) (main _ _ _ _ ⟨by simp [hsz], ha.ext hE, fun j de hj hl => ?_⟩ ?_)
  · have hjl : j < D.length := (List.getElem?_eq_some_iff.1 hj).1
    simp [hsz, hjl] at hl
  · have := List.length_filter_le (fun j => !(Array.replicate os.toArray.size false).getD j true) (List.range D.length)
    simp only [List.length_range] at this
    omega
theorem gSub {Γ : Ctx} {l : Slots} {c : Code} (L' : Slots) (res' : Res) (ns : List Nat) (h1 : SubS l L') (h2 : SubR res res' ns) (k : G ro P (Sta Γ L' res') c Q m) : G ro P (Sta Γ l res) c Q m := fun a w ha => k a w (ha.sub ns h1 h2)
end
end Go.Proofs.Ytklfgpdfongaeaa
namespace Go.Proofs.Ytklfgpdfongaeaa
open Go Go.RowKit
set_option linter.unusedSimpArgs false
set_option linter.unusedVariables false
def braidlaw07_FrameNames_L0 (y31 : List api_Frame) (s33 : Int) : Option (Sum (Sum Bool Unit) Int) :=
  if decide (s33 < (y31.length : Int)) then
    idx y31 s33 >>= fun x35 =>
    frame_Encode x35 >>= fun r37 =>
    idx y31 s33 >>= fun x39 =>
    frame_Check x39 >>= fun r41 =>
    if r41 != 8 then
      some (.inl (.inl false))
    else
      if r37.2 != 8 then
        some (.inl (.inl false))
      else
        some (w64 (s33 + 1)) >>= fun y45 =>
        some (.inr y45)
  else
    some (.inl (.inr ()))
def braidlaw07_FrameNames  : Option (Bool) :=
  mkn 1 0 400 >>= fun x1 =>
  mkn 1 0 383 >>= fun x4 =>
  mkn 1 0 384 >>= fun x8 =>
  braidlaw07_rising 1 >>= fun r12 =>
  mkn 24 [] 1 >>= fun x15 =>
  mkn 24 [] 1 >>= fun x17 =>
  braidlaw07_rising 41 >>= fun r19 =>
  mkn 32 (Vector.replicate 32 0) 2 >>= fun x22 =>
  braidlaw07_rising 1 >>= fun r24 =>
  mkn 24 [] 9 >>= fun x27 =>
  mkn 1 0 401 >>= fun x29 =>
  some [(⟨0, 0, [], []⟩ : api_Frame), (⟨7, 0, [], []⟩ : api_Frame), (⟨1, 0, r12, []⟩ : api_Frame), (⟨6, 0, [], x15⟩ : api_Frame), (⟨2, 1, [], []⟩ : api_Frame), (⟨3, 0, [], x17⟩ : api_Frame), (⟨4, 0, r19, []⟩ : api_Frame), (⟨2, 0, x22, []⟩ : api_Frame), (⟨2, 0, [vset (Vector.replicate 32 0) ((0 : Nat) : Int) 2, vset (Vector.replicate 32 0) ((0 : Nat) : Int) 1], []⟩ : api_Frame), (⟨5, 1, [], []⟩ : api_Frame), (⟨5, 0, r24, []⟩ : api_Frame), (⟨5, 0, [], x27⟩ : api_Frame), (⟨5, 0, [], [x29]⟩ : api_Frame), (⟨5, 0, [], [x1, x1, x1, x1, x8]⟩ : api_Frame)] >>= fun y31 =>
  orRet (iter (braidlaw07_FrameNames_L0 y31) 0) fun s32 =>
  frame_Encode (⟨5, 0, [], [x1, x1, x1, x1, x4]⟩ : api_Frame) >>= fun r46 =>
  braidlaw07_rising 40 >>= fun r48 =>
  frame_Encode (⟨4, 0, r48, []⟩ : api_Frame) >>= fun r50 =>
  mkn 24 [] 8 >>= fun x52 =>
  frame_Encode (⟨5, 0, [], x52⟩ : api_Frame) >>= fun r55 =>
  frame_Split [] 1 >>= fun r57 =>
  frame_Split [] 5 >>= fun r59 =>
  braidlaw07_rising 61 >>= fun r61 =>
  frame_Split r61 2 >>= fun r63 =>
  mkn 32 (Vector.replicate 32 0) 2 >>= fun x65 =>
  frame_Split x65 2 >>= fun r68 =>
  braidlaw07_rising 61 >>= fun r70 =>
  frame_Split r70 7 >>= fun r72 =>
  frame_Split [] 4 >>= fun r74 =>
  braidlaw07_rising 60 >>= fun r76 =>
  frame_Split r76 3 >>= fun r78 =>
  braidlaw07_rising 40 >>= fun r80 =>
  frame_Split r80 2 >>= fun r82 =>
  (braidlaw07_refused [] >>= fun r85 =>
  if r85 then
    braidlaw07_refused [0, 0] >>= fun r89 =>
    if r89 then
      braidlaw07_refused [1, 248, 1] >>= fun r93 =>
      if r93 then
        braidlaw07_refused [1, 1, 1] >>= fun r97 =>
        if r97 then
          braidlaw07_refused [3, 1] >>= fun r101 =>
          if r101 then
            braidlaw07_refused [5, 9] >>= fun r105 =>
            if r105 then
              braidlaw07_refused [5, 1, 1] >>= fun r109 =>
              if r109 then
                braidlaw07_refused [5, 1, 249, 1, 145] >>= fun r113 =>
                if r113 then
                  braidlaw07_refused [6, 0, 0] >>= fun r117 =>
                  some r117
                else
                  some false
              else
                some false
            else
              some false
          else
            some false
        else
          some false
      else
        some false
    else
      some false
  else
    some false) >>= fun s84 =>
  (if r57.2 == 2 then
    if r59.2 == 2 then
      if r63.2 == 4 then
        if r68.2 == 32 then
          if r72.2 == 2 then
            if r74.2 == 0 then
              if (r74.1.length : Int) == 1 then
                idx r74.1 0 >>= fun x127 =>
                if (x127.IDs.length : Int) == 0 then
                  if r78.2 == 0 then
                    if (r78.1.length : Int) == 2 then
                      idx r78.1 1 >>= fun x132 =>
                      if (x132.IDs.length : Int) == 20 then
                        if r82.2 == 0 then
                          some ((r82.1.length : Int) == 1) >>= fun y136 =>
                          some y136
                        else
                          some false
                      else
                        some false
                    else
                      some false
                  else
                    some false
                else
                  some false
              else
                some false
            else
              some false
          else
            some false
        else
          some false
      else
        some false
    else
      some false
  else
    some false) >>= fun s119 =>
  if r46.2 == 0 then
    if (r46.1.length : Int) == 2000 then
      if r50.2 == 0 then
        if (r50.1.length : Int) == 1282 then
          if r55.2 == 0 then
            if (r55.1.length : Int) == 10 then
              if s119 then
                if s84 then
                  braidlaw07_is (⟨6, 0, [], []⟩ : api_Frame) [6, 0] >>= fun r146 =>
                  if r146 then
                    braidlaw07_alive >>= fun r149 =>
                    some r149
                  else
                    some false
                else
                  some false
              else
                some false
            else
              some false
          else
            some false
        else
          some false
      else
        some false
    else
      some false
  else
    some false
set_option maxRecDepth 100000 in
theorem braidlaw07_FrameNames_ok  : Spec Try.prog 22 [] [] (braidlaw07_FrameNames) (fun r nv => ⟨[.rd boolR r], []⟩) := by
  refine spec 287 Try.func22 rfl rfl rfl fun H w => ?_
  refine gSeq <| gReg <| R rfl (asg rfl) <| gNil <| eThen <| gSeq <| gReg <| lBind fun x1 h2 => Ef rfl (mks 1 rfl rfl h2 Try.underlying32 ti5 (Zr.num rfl) rfl) fun v3 => R rfl (asg rfl) <| gNil <| eThen <| gSeq <| gReg <| R rfl (mv rfl) <| R rfl (mv rfl) <| R rfl (mv rfl) <| R rfl (mv rfl) <| lBind fun x4 h5 => Ef rfl (mks 2 rfl rfl h5 Try.underlying32 ti5 (Zr.num rfl) rfl) fun v6 => lFrz 1 [32, 1, 33, 34, 35, 36] rfl (fS rfl <| fS rfl <| fS rfl <| fS rfl <| fS rfl <| fS rfl <| fN) <| lFrz 2 [37] rfl (fS rfl <| fN) <| Ef rfl (lit (R := (sliceR u8R)) ([x1, x1, x1, x1, x4] : List (List UInt8)) 3 (pP rfl rfl <| pP rfl rfl <| pP rfl rfl <| pP rfl rfl <| pP rfl rfl <| pN) rfl Try.underlying103 ti32 rfl rfl) fun v7 => R rfl (asg rfl) <| gNil <| eThen <| gSeq <| gReg <| R rfl (mv rfl) <| R rfl (mv rfl) <| R rfl (mv rfl) <| R rfl (mv rfl) <| lBind fun x8 h9 => Ef rfl (mks 4 rfl rfl h9 Try.underlying32 ti5 (Zr.num rfl) rfl) fun v10 => lFrz 4 [43] rfl (fS rfl <| fN) <| Ef rfl (lit (R := (sliceR u8R)) ([x1, x1, x1, x1, x8] : List (List UInt8)) 5 (pP rfl rfl <| pP rfl rfl <| pP rfl rfl <| pP rfl rfl <| pP rfl rfl <| pN) rfl Try.underlying103 ti32 rfl rfl) fun v11 => R rfl (asg rfl) <| gNil <| eThen <| gSeq <| gFrz 5 [44, 3] rfl (fS rfl <| fS rfl <| fN) <| gSub [(2, .val v7), (3, .rd (sliceR (sliceR u8R)) [x1, x1, x1, x1, x8])] [(3, some (v7, .list (sliceR u8R) 32 [x1, x1, x1, x1, x4]))] [3] (sS rfl <| sS rfl <| sN) (rR rfl rfl <| rN) <| gBind fun r12 h14 => gBind fun x15 h16 => gBind fun x17 h18 => gBind fun r19 h21 => gBind fun x22 h23 => gBind fun r24 h26 => gBind fun x27 h28 => gBind fun x29 h30 => gPar [(45, .rd R_api_Frame (⟨0, 0, [], []⟩ : api_Frame)), (46, .rd R_api_Frame (⟨7, 0, [], []⟩ : api_Frame)), (47, .rd (sliceR (arrR 32 u8R)) r12), (48, .rd R_api_Frame (⟨1, 0, r12, []⟩ : api_Frame)), (49, .rd (sliceR (sliceR u8R)) x15), (50, .rd R_api_Frame (⟨6, 0, [], x15⟩ : api_Frame)), (51, .rd R_api_Frame (⟨2, 1, [], []⟩ : api_Frame)), (52, .rd (sliceR (sliceR u8R)) x17), (53, .rd R_api_Frame (⟨3, 0, [], x17⟩ : api_Frame)), (54, .rd (sliceR (arrR 32 u8R)) r19), (55, .rd R_api_Frame (⟨4, 0, r19, []⟩ : api_Frame)), (56, .rd (sliceR (arrR 32 u8R)) x22), (57, .rd R_api_Frame (⟨2, 0, x22, []⟩ : api_Frame)), (58, .rd (arrR 32 u8R) (vset (Vector.replicate 32 0) ((0 : Nat) : Int) 2)), (59, .rd (arrR 32 u8R) (vset (Vector.replicate 32 0) ((0 : Nat) : Int) 1)), (60, .rd (sliceR (arrR 32 u8R)) [vset (Vector.replicate 32 0) ((0 : Nat) : Int) 2, vset (Vector.replicate 32 0) ((0 : Nat) : Int) 1]), (61, .rd R_api_Frame (⟨2, 0, [vset (Vector.replicate 32 0) ((0 : Nat) : Int) 2, vset (Vector.replicate 32 0) ((0 : Nat) : Int) 1], []⟩ : api_Frame)), (62, .rd R_api_Frame (⟨5, 1, [], []⟩ : api_Frame)), (63, .rd (sliceR (arrR 32 u8R)) r24), (64, .rd R_api_Frame (⟨5, 0, r24, []⟩ : api_Frame)), (65, .rd (sliceR (sliceR u8R)) x27), (66, .rd R_api_Frame (⟨5, 0, [], x27⟩ : api_Frame)), (67, .rd (sliceR u8R) x29), (68, .rd (sliceR (sliceR u8R)) [x29]), (69, .rd R_api_Frame (⟨5, 0, [], [x29]⟩ : api_Frame)), (70, .rd (sliceR (sliceR u8R)) [x1, x1, x1, x1, x8]), (71, .rd R_api_Frame (⟨5, 0, [], [x1, x1, x1, x1, x8]⟩ : api_Frame)), (72, .rd (sliceR R_api_Frame) [(⟨0, 0, [], []⟩ : api_Frame), (⟨7, 0, [], []⟩ : api_Frame), (⟨1, 0, r12, []⟩ : api_Frame), (⟨6, 0, [], x15⟩ : api_Frame), (⟨2, 1, [], []⟩ : api_Frame), (⟨3, 0, [], x17⟩ : api_Frame), (⟨4, 0, r19, []⟩ : api_Frame), (⟨2, 0, x22, []⟩ : api_Frame), (⟨2, 0, [vset (Vector.replicate 32 0) ((0 : Nat) : Int) 2, vset (Vector.replicate 32 0) ((0 : Nat) : Int) 1], []⟩ : api_Frame), (⟨5, 1, [], []⟩ : api_Frame), (⟨5, 0, r24, []⟩ : api_Frame), (⟨5, 0, [], x27⟩ : api_Frame), (⟨5, 0, [], [x29]⟩ : api_Frame), (⟨5, 0, [], [x1, x1, x1, x1, x8]⟩ : api_Frame)]), (4, .rd (sliceR R_api_Frame) [(⟨0, 0, [], []⟩ : api_Frame), (⟨7, 0, [], []⟩ : api_Frame), (⟨1, 0, r12, []⟩ : api_Frame), (⟨6, 0, [], x15⟩ : api_Frame), (⟨2, 1, [], []⟩ : api_Frame), (⟨3, 0, [], x17⟩ : api_Frame), (⟨4, 0, r19, []⟩ : api_Frame), (⟨2, 0, x22, []⟩ : api_Frame), (⟨2, 0, [vset (Vector.replicate 32 0) ((0 : Nat) : Int) 2, vset (Vector.replicate 32 0) ((0 : Nat) : Int) 1], []⟩ : api_Frame), (⟨5, 1, [], []⟩ : api_Frame), (⟨5, 0, r24, []⟩ : api_Frame), (⟨5, 0, [], x27⟩ : api_Frame), (⟨5, 0, [], [x29]⟩ : api_Frame), (⟨5, 0, [], [x1, x1, x1, x1, x8]⟩ : api_Frame)])] [[], [], [], [2], [], [4], [], [], [7], [], [9], [], [11], [], [], [13, 14], [15], [], [], [18], [], [20], [], [22], [23], [], [25], [0, 1, 3, 5, 6, 8, 10, 12, 16, 17, 19, 21, 24, 26], [27]] mixed (by kernel_rfl) ⟨pRun (bld (x' := (⟨0, 0, [], []⟩ : api_Frame)) [(0, 1), (1, 1), (2, 1), (3, 1)] Try.underlying105 ti105 rfl zr105 rfl (Bld.done rfl)), pRun (bld (x' := (⟨7, 0, [], []⟩ : api_Frame)) [(0, 1), (1, 1), (2, 1), (3, 1)] Try.underlying105 ti105 rfl zr105 rfl (Bld.cons (pt_api_Frame_Kind _) rfl rfl <| Bld.done rfl)), pCall h14 Try.func94 rfl rfl (braidlaw07_rising_ok _) (aQ rfl <| aN) (fun _ => DatE.own), pRun (bld (x' := (⟨1, 0, r12, []⟩ : api_Frame)) [(0, 1), (1, 1), (2, 1), (3, 1)] Try.underlying105 ti105 rfl zr105 rfl (Bld.cons (pt_api_Frame_Kind _) rfl rfl <| Bld.cons (pt_api_Frame_IDs _) rfl rfl <| Bld.done rfl)), pEff rfl (mks 11 rfl rfl h16 Try.underlying103 ti32 Zr.slice rfl), pRun (bld (x' := (⟨6, 0, [], x15⟩ : api_Frame)) [(0, 1), (1, 1), (2, 1), (3, 1)] Try.underlying105 ti105 rfl zr105 rfl (Bld.cons (pt_api_Frame_Kind _) rfl rfl <| Bld.cons (pt_api_Frame_Ops _) rfl rfl <| Bld.done rfl)), pRun (bld (x' := (⟨2, 1, [], []⟩ : api_Frame)) [(0, 1), (1, 1), (2, 1), (3, 1)] Try.underlying105 ti105 rfl zr105 rfl (Bld.cons (pt_api_Frame_Kind _) rfl rfl <| Bld.cons (pt_api_Frame_N _) rfl rfl <| Bld.done rfl)), pEff rfl (mks 15 rfl rfl h18 Try.underlying103 ti32 Zr.slice rfl), pRun (bld (x' := (⟨3, 0, [], x17⟩ : api_Frame)) [(0, 1), (1, 1), (2, 1), (3, 1)] Try.underlying105 ti105 rfl zr105 rfl (Bld.cons (pt_api_Frame_Kind _) rfl rfl <| Bld.cons (pt_api_Frame_Ops _) rfl rfl <| Bld.done rfl)), pCall h21 Try.func94 rfl rfl (braidlaw07_rising_ok _) (aQ rfl <| aN) (fun _ => DatE.own), pRun (bld (x' := (⟨4, 0, r19, []⟩ : api_Frame)) [(0, 1), (1, 1), (2, 1), (3, 1)] Try.underlying105 ti105 rfl zr105 rfl (Bld.cons (pt_api_Frame_Kind _) rfl rfl <| Bld.cons (pt_api_Frame_IDs _) rfl rfl <| Bld.done rfl)), pEff rfl (mks 20 rfl rfl h23 Try.underlying83 ti102 zr101 rfl), pRun (bld (x' := (⟨2, 0, x22, []⟩ : api_Frame)) [(0, 1), (1, 1), (2, 1), (3, 1)] Try.underlying105 ti105 rfl zr105 rfl (Bld.cons (pt_api_Frame_Kind _) rfl rfl <| Bld.cons (pt_api_Frame_IDs _) rfl rfl <| Bld.done rfl)), pRun (bldG (x' := (vset (Vector.replicate 32 0) ((0 : Nat) : Int) 2 : Vector UInt8 32)) Try.underlying102 ti102 zr101 ti5 (Bld.cons (Part.el (vidx_ok (k := 0) (by decide))) rfl rfl <| Bld.done rfl)), pRun (bldG (x' := (vset (Vector.replicate 32 0) ((0 : Nat) : Int) 1 : Vector UInt8 32)) Try.underlying102 ti102 zr101 ti5 (Bld.cons (Part.el (vidx_ok (k := 0) (by decide))) rfl rfl <| Bld.done rfl)), pEff rfl (lit (R := (arrR 32 u8R)) ([vset (Vector.replicate 32 0) ((0 : Nat) : Int) 2, vset (Vector.replicate 32 0) ((0 : Nat) : Int) 1] : List (Vector UInt8 32)) 25 (pP rfl rfl <| pP rfl rfl <| pN) rfl Try.underlying83 ti102 rfl rfl), pRun (bld (x' := (⟨2, 0, [vset (Vector.replicate 32 0) ((0 : Nat) : Int) 2, vset (Vector.replicate 32 0) ((0 : Nat) : Int) 1], []⟩ : api_Frame)) [(0, 1), (1, 1), (2, 1), (3, 1)] Try.underlying105 ti105 rfl zr105 rfl (Bld.cons (pt_api_Frame_Kind _) rfl rfl <| Bld.cons (pt_api_Frame_IDs _) rfl rfl <| Bld.done rfl)), pRun (bld (x' := (⟨5, 1, [], []⟩ : api_Frame)) [(0, 1), (1, 1), (2, 1), (3, 1)] Try.underlying105 ti105 rfl zr105 rfl (Bld.cons (pt_api_Frame_Kind _) rfl rfl <| Bld.cons (pt_api_Frame_N _) rfl rfl <| Bld.done rfl)), pCall h26 Try.func94 rfl rfl (braidlaw07_rising_ok _) (aQ rfl <| aN) (fun _ => DatE.own), pRun (bld (x' := (⟨5, 0, r24, []⟩ : api_Frame)) [(0, 1), (1, 1), (2, 1), (3, 1)] Try.underlying105 ti105 rfl zr105 rfl (Bld.cons (pt_api_Frame_Kind _) rfl rfl <| Bld.cons (pt_api_Frame_IDs _) rfl rfl <| Bld.done rfl)), pEff rfl (mks 31 rfl rfl h28 Try.underlying103 ti32 Zr.slice rfl), pRun (bld (x' := (⟨5, 0, [], x27⟩ : api_Frame)) [(0, 1), (1, 1), (2, 1), (3, 1)] Try.underlying105 ti105 rfl zr105 rfl (Bld.cons (pt_api_Frame_Kind _) rfl rfl <| Bld.cons (pt_api_Frame_Ops _) rfl rfl <| Bld.done rfl)), pEff rfl (mks 34 rfl rfl h30 Try.underlying32 ti5 (Zr.num rfl) rfl), pEff rfl (lit (R := (sliceR u8R)) ([x29] : List (List UInt8)) 36 (pP rfl rfl <| pN) rfl Try.underlying103 ti32 rfl rfl), pRun (bld (x' := (⟨5, 0, [], [x29]⟩ : api_Frame)) [(0, 1), (1, 1), (2, 1), (3, 1)] Try.underlying105 ti105 rfl zr105 rfl (Bld.cons (pt_api_Frame_Kind _) rfl rfl <| Bld.cons (pt_api_Frame_Ops _) rfl rfl <| Bld.done rfl)), pRun (mv rfl), pRun (bld (x' := (⟨5, 0, [], [x1, x1, x1, x1, x8]⟩ : api_Frame)) [(0, 1), (1, 1), (2, 1), (3, 1)] Try.underlying105 ti105 rfl zr105 rfl (Bld.cons (pt_api_Frame_Kind _) rfl rfl <| Bld.cons (pt_api_Frame_Ops _) rfl rfl <| Bld.done rfl)), pEff rfl (lit (R := R_api_Frame) ([(⟨0, 0, [], []⟩ : api_Frame), (⟨7, 0, [], []⟩ : api_Frame), (⟨1, 0, r12, []⟩ : api_Frame), (⟨6, 0, [], x15⟩ : api_Frame), (⟨2, 1, [], []⟩ : api_Frame), (⟨3, 0, [], x17⟩ : api_Frame), (⟨4, 0, r19, []⟩ : api_Frame), (⟨2, 0, x22, []⟩ : api_Frame), (⟨2, 0, [vset (Vector.replicate 32 0) ((0 : Nat) : Int) 2, vset (Vector.replicate 32 0) ((0 : Nat) : Int) 1], []⟩ : api_Frame), (⟨5, 1, [], []⟩ : api_Frame), (⟨5, 0, r24, []⟩ : api_Frame), (⟨5, 0, [], x27⟩ : api_Frame), (⟨5, 0, [], [x29]⟩ : api_Frame), (⟨5, 0, [], [x1, x1, x1, x1, x8]⟩ : api_Frame)] : List api_Frame) 41 (pP rfl rfl <| pP rfl rfl <| pP rfl rfl <| pP rfl rfl <| pP rfl rfl <| pP rfl rfl <| pP rfl rfl <| pP rfl rfl <| pP rfl rfl <| pP rfl rfl <| pP rfl rfl <| pP rfl rfl <| pP rfl rfl <| pP rfl rfl <| pN) rfl Try.underlying110 ti105 rfl rfl), pRun (asg rfl), trivial⟩ <| eName 4 rfl fun y31 => eThen <| gMidR (fun (s32 : Unit) aa ww => Sta (ctx 287 H [] w) [(2, .val v7)] [(3, some (v7, .list (sliceR u8R) 32 [x1, x1, x1, x1, x4]))] aa ww) ?_ (fun s32 => ?_)
  · skip
    refine gSeq <| gReg <| R rfl (asg rfl) <| gNil <| eThen <| gLoop (fun (s33 : Int) aa ww => Sta (ctx 287 H [] w) [(2, .val v7), (4, .rd (sliceR R_api_Frame) y31), (5, .rd i64R s33)] [(3, some (v7, .list (sliceR u8R) 32 [x1, x1, x1, x1, x4]))] aa ww) (fun aa ww h => h.sub [3] (sS rfl <| sS rfl <| sS rfl <| sN) (rR rfl rfl <| rN)) (fun s33 => ?_)
    refine gSeq <| gSeq <| gReg <| R rfl (mv rfl) <| R rfl (mv rfl) <| R rfl (len' rfl .rd rfl Try.underlying110) <| R rfl (I.lss rfl rfl) <| gNil <| eThen <| gIf rfl rfl (fun h34 => ?_) (fun h34 => ?_)
    · skip
      refine gSkip <| eThen <| gSeq <| gBlk <| gSeq <| gReg <| R rfl (mv rfl) <| R rfl (mv rfl) <| lBind fun x35 h36 => R rfl (ixR rfl rfl h36 Try.underlying110 ti105 rfl) <| R rfl (ldR rfl ty105) <| call [] [(100, 43)] rfl Try.func72 rfl rfl (frame_Encode_ok _) (aQ rfl <| aN) rN fun r37 n38 => R rfl (mv rfl) <| R rfl (ext rfl rfl) <| R rfl (ext rfl rfl) <| R rfl (asg rfl) <| R rfl (asg rfl) <| gNil <| eThen <| gSeq <| gReg <| R rfl (mv rfl) <| R rfl (mv rfl) <| lBind fun x39 h40 => R rfl (ixR rfl rfl h40 Try.underlying110 ti105 rfl) <| R rfl (ldR rfl ty105) <| call [] [] rfl Try.func76 rfl rfl (frame_Check_ok _) (aQ rfl <| aN) rN fun r41 n42 => R rfl (I.neq rfl rfl) <| R rfl (mv rfl) <| lSplit 93 rfl (fun h43 => ?_) (fun h43 => ?_)
      · skip
        refine lKn 92 rfl h43 <| lSkip (gd rfl rfl rfl rfl) rfl rfl <| lSkip (gd rfl rfl rfl rfl) rfl rfl <| R rfl (pkT rfl rfl) <| gNil <| eThen <| gTrue rfl <| gSeq <| gReg <| R rfl (asg rfl) <| gNil <| eThen <| gRet <| eBret <| eTret <| eLret <| eMret <| eRet [] [] rfl (eE rfl <| eN) (rN)
      · skip
        refine lKn 92 rfl h43 <| lRun (gd rfl rfl rfl rfl) rfl rfl (mv rfl) <| lRun (gd rfl rfl rfl rfl) rfl rfl (I.neq rfl rfl) <| R rfl (pkF rfl rfl) <| gNil <| eThen <| gIf rfl rfl (fun h44 => ?_) (fun h44 => ?_)
        · skip
          refine gKn 95 rfl h44 <| gSeq <| gReg <| R rfl (asg rfl) <| gNil <| eThen <| gRet <| eBret <| eTret <| eLret <| eMret <| eRet [] [] rfl (eE rfl <| eN) (rN)
        · skip
          refine gKn 95 rfl h44 <| gSkip <| eBlk <| eThen <| gReg <| R rfl (mv rfl) <| R rfl (I.add rfl rfl) <| R rfl (asg rfl) <| lName 5 rfl fun y45 => gNil <| eNext (fun aa ww h => h.sub [3] (sS rfl <| sS rfl <| sS rfl <| sN) (rR rfl rfl <| rN))
    · skip
      refine gExit <| eTexit <| eLeave <| eMidR (fun aa ww h => h.sub [3] (sS rfl <| sN) (rR rfl rfl <| rN))
  · skip
    refine gSeq <| gReg <| R rfl (mv rfl) <| lFrz 3 [2, 98] rfl (fS rfl <| fS rfl <| fN) <| R rfl (bld (x' := (⟨5, 0, [], [x1, x1, x1, x1, x4]⟩ : api_Frame)) [(0, 1), (1, 1), (2, 1), (3, 1)] Try.underlying105 ti105 rfl zr105 rfl (Bld.cons (pt_api_Frame_Kind _) rfl rfl <| Bld.cons (pt_api_Frame_Ops _) rfl rfl <| Bld.done rfl)) <| call [] [(100, 44)] rfl Try.func72 rfl rfl (frame_Encode_ok _) (aQ rfl <| aN) rN fun r46 n47 => R rfl (mv rfl) <| R rfl (ext rfl rfl) <| R rfl (ext rfl rfl) <| R rfl (asg rfl) <| R rfl (asg rfl) <| gNil <| eThen <| gSeq <| gReg <| call [] [(100, 45)] rfl Try.func94 rfl rfl (braidlaw07_rising_ok _) (aQ rfl <| aN) rN fun r48 n49 => lFrz 45 [104] rfl (fS rfl <| fN) <| R rfl (bld (x' := (⟨4, 0, r48, []⟩ : api_Frame)) [(0, 1), (1, 1), (2, 1), (3, 1)] Try.underlying105 ti105 rfl zr105 rfl (Bld.cons (pt_api_Frame_Kind _) rfl rfl <| Bld.cons (pt_api_Frame_IDs _) rfl rfl <| Bld.done rfl)) <| call [] [(100, 46)] rfl Try.func72 rfl rfl (frame_Encode_ok _) (aQ rfl <| aN) rN fun r50 n51 => R rfl (mv rfl) <| R rfl (ext rfl rfl) <| R rfl (ext rfl rfl) <| R rfl (asg rfl) <| R rfl (asg rfl) <| gNil <| eThen <| gSeq <| gReg <| lBind fun x52 h53 => Ef rfl (mks 47 rfl rfl h53 Try.underlying103 ti32 Zr.slice rfl) fun v54 => lFrz 47 [110] rfl (fS rfl <| fN) <| R rfl (bld (x' := (⟨5, 0, [], x52⟩ : api_Frame)) [(0, 1), (1, 1), (2, 1), (3, 1)] Try.underlying105 ti105 rfl zr105 rfl (Bld.cons (pt_api_Frame_Kind _) rfl rfl <| Bld.cons (pt_api_Frame_Ops _) rfl rfl <| Bld.done rfl)) <| call [] [(100, 48)] rfl Try.func72 rfl rfl (frame_Encode_ok _) (aQ rfl <| aN) rN fun r55 n56 => R rfl (mv rfl) <| R rfl (ext rfl rfl) <| R rfl (ext rfl rfl) <| R rfl (asg rfl) <| R rfl (asg rfl) <| gNil <| eThen <| gSeq <| gReg <| call [] [(100, 49)] rfl Try.func74 rfl rfl (frame_Split_ok _ _) (aNil rfl <| aQ rfl <| aN) rN fun r57 n58 => R rfl (mv rfl) <| R rfl (ext rfl rfl) <| R rfl (ext rfl rfl) <| R rfl (asg rfl) <| R rfl (asg rfl) <| gNil <| eThen <| gSeq <| gReg <| call [] [(100, 50)] rfl Try.func74 rfl rfl (frame_Split_ok _ _) (aNil rfl <| aQ rfl <| aN) rN fun r59 n60 => R rfl (mv rfl) <| R rfl (ext rfl rfl) <| R rfl (ext rfl rfl) <| R rfl (asg rfl) <| R rfl (asg rfl) <| gNil <| eThen <| gSeq <| gReg <| call [] [(100, 51)] rfl Try.func94 rfl rfl (braidlaw07_rising_ok _) (aQ rfl <| aN) rN fun r61 n62 => lFrz 51 [124] rfl (fS rfl <| fN) <| call [] [(100, 52)] rfl Try.func74 rfl rfl (frame_Split_ok _ _) (aQ rfl <| aQ rfl <| aN) rN fun r63 n64 => R rfl (mv rfl) <| R rfl (ext rfl rfl) <| R rfl (ext rfl rfl) <| R rfl (asg rfl) <| R rfl (asg rfl) <| gNil <| eThen <| gSeq <| gReg <| lBind fun x65 h66 => Ef rfl (mks 53 rfl rfl h66 Try.underlying83 ti102 zr101 rfl) fun v67 => lFrz 53 [129] rfl (fS rfl <| fN) <| call [] [(100, 54)] rfl Try.func74 rfl rfl (frame_Split_ok _ _) (aQ rfl <| aQ rfl <| aN) rN fun r68 n69 => R rfl (mv rfl) <| R rfl (ext rfl rfl) <| R rfl (ext rfl rfl) <| R rfl (asg rfl) <| R rfl (asg rfl) <| gNil <| eThen <| gSeq <| gReg <| call [] [(100, 55)] rfl Try.func94 rfl rfl (braidlaw07_rising_ok _) (aQ rfl <| aN) rN fun r70 n71 => lFrz 55 [134] rfl (fS rfl <| fN) <| call [] [(100, 56)] rfl Try.func74 rfl rfl (frame_Split_ok _ _) (aQ rfl <| aQ rfl <| aN) rN fun r72 n73 => R rfl (mv rfl) <| R rfl (ext rfl rfl) <| R rfl (ext rfl rfl) <| R rfl (asg rfl) <| R rfl (asg rfl) <| gNil <| eThen <| gSeq <| gReg <| call [] [(100, 57)] rfl Try.func74 rfl rfl (frame_Split_ok _ _) (aNil rfl <| aQ rfl <| aN) rN fun r74 n75 => R rfl (mv rfl) <| R rfl (ext rfl rfl) <| R rfl (ext rfl rfl) <| R rfl (asg rfl) <| R rfl (asg rfl) <| gNil <| eThen <| gSeq <| gReg <| call [] [(100, 58)] rfl Try.func94 rfl rfl (braidlaw07_rising_ok _) (aQ rfl <| aN) rN fun r76 n77 => lFrz 58 [143] rfl (fS rfl <| fN) <| call [] [(100, 59)] rfl Try.func74 rfl rfl (frame_Split_ok _ _) (aQ rfl <| aQ rfl <| aN) rN fun r78 n79 => R rfl (mv rfl) <| R rfl (ext rfl rfl) <| R rfl (ext rfl rfl) <| R rfl (asg rfl) <| R rfl (asg rfl) <| gNil <| eThen <| gSeq <| gReg <| call [] [(100, 60)] rfl Try.func94 rfl rfl (braidlaw07_rising_ok _) (aQ rfl <| aN) rN fun r80 n81 => lFrz 60 [148] rfl (fS rfl <| fN) <| call [] [(100, 61)] rfl Try.func74 rfl rfl (frame_Split_ok _ _) (aQ rfl <| aQ rfl <| aN) rN fun r82 n83 => R rfl (mv rfl) <| R rfl (ext rfl rfl) <| R rfl (ext rfl rfl) <| R rfl (asg rfl) <| R rfl (asg rfl) <| gNil <| eThen <| gMid (fun (s84 : Bool) aa ww => Sta (ctx 287 H [] w) [(8, .val (n47 0)), (9, .rd i64R r46.2), (10, .val (n51 0)), (11, .rd i64R r50.2), (12, .val (n56 0)), (13, .rd i64R r55.2), (15, .rd i64R r57.2), (17, .rd i64R r59.2), (19, .rd i64R r63.2), (21, .rd i64R r68.2), (23, .rd i64R r72.2), (24, .val (n75 0)), (25, .rd i64R r74.2), (26, .val (n79 0)), (27, .rd i64R r78.2), (28, .val (n83 0)), (29, .rd i64R r82.2), (30, .rd boolR s84)] [(44, some ((n47 0), .list u8R 5 r46.1)), (46, some ((n51 0), .list u8R 5 r50.1)), (48, some ((n56 0), .list u8R 5 r55.1)), (57, some ((n75 0), .list R_api_Frame 105 r74.1)), (59, some ((n79 0), .list R_api_Frame 105 r78.1)), (61, some ((n83 0), .list R_api_Frame 105 r82.1))] aa ww) ?_ (fun s84 => ?_)
    · skip
      refine gReg <| call [] [] rfl Try.func95 rfl rfl (braidlaw07_refused_ok _) (aNil rfl <| aN) rN fun r85 n86 => R rfl (mv rfl) <| lSplit 153 rfl (fun h87 => ?_) (fun h87 => ?_)
      · skip
        refine lKn 152 rfl h87 <| Efg (gd rfl rfl rfl rfl) rfl rfl (lit (R := u8R) ([0, 0] : List UInt8) 62 (pP rfl rfl <| pP rfl rfl <| pN) rfl Try.underlying32 ti5 rfl rfl) fun v88 => lFrz 62 [154] rfl (fS rfl <| fN) <| callg [] [] (gd rfl rfl rfl rfl) rfl Try.func95 rfl rfl (braidlaw07_refused_ok _) (aQ rfl <| aN) rN fun r89 n90 => R rfl (pkT rfl rfl) <| R rfl (mv rfl) <| lSplit 157 rfl (fun h91 => ?_) (fun h91 => ?_)
        · skip
          refine lKn 155 rfl h91 <| lKn 156 rfl h91 <| Efg (gd rfl rfl rfl rfl) rfl rfl (lit (R := u8R) ([1, 248, 1] : List UInt8) 63 (pP rfl rfl <| pP rfl rfl <| pP rfl rfl <| pN) rfl Try.underlying32 ti5 rfl rfl) fun v92 => lFrz 63 [158] rfl (fS rfl <| fN) <| callg [] [] (gd rfl rfl rfl rfl) rfl Try.func95 rfl rfl (braidlaw07_refused_ok _) (aQ rfl <| aN) rN fun r93 n94 => R rfl (pkT rfl rfl) <| R rfl (mv rfl) <| lSplit 161 rfl (fun h95 => ?_) (fun h95 => ?_)
          · skip
            refine lKn 159 rfl h95 <| lKn 160 rfl h95 <| Efg (gd rfl rfl rfl rfl) rfl rfl (lit (R := u8R) ([1, 1, 1] : List UInt8) 64 (pP rfl rfl <| pP rfl rfl <| pP rfl rfl <| pN) rfl Try.underlying32 ti5 rfl rfl) fun v96 => lFrz 64 [162] rfl (fS rfl <| fN) <| callg [] [] (gd rfl rfl rfl rfl) rfl Try.func95 rfl rfl (braidlaw07_refused_ok _) (aQ rfl <| aN) rN fun r97 n98 => R rfl (pkT rfl rfl) <| R rfl (mv rfl) <| lSplit 165 rfl (fun h99 => ?_) (fun h99 => ?_)
            · skip
              refine lKn 163 rfl h99 <| lKn 164 rfl h99 <| Efg (gd rfl rfl rfl rfl) rfl rfl (lit (R := u8R) ([3, 1] : List UInt8) 65 (pP rfl rfl <| pP rfl rfl <| pN) rfl Try.underlying32 ti5 rfl rfl) fun v100 => lFrz 65 [166] rfl (fS rfl <| fN) <| callg [] [] (gd rfl rfl rfl rfl) rfl Try.func95 rfl rfl (braidlaw07_refused_ok _) (aQ rfl <| aN) rN fun r101 n102 => R rfl (pkT rfl rfl) <| R rfl (mv rfl) <| lSplit 169 rfl (fun h103 => ?_) (fun h103 => ?_)
              · skip
                refine lKn 167 rfl h103 <| lKn 168 rfl h103 <| Efg (gd rfl rfl rfl rfl) rfl rfl (lit (R := u8R) ([5, 9] : List UInt8) 66 (pP rfl rfl <| pP rfl rfl <| pN) rfl Try.underlying32 ti5 rfl rfl) fun v104 => lFrz 66 [170] rfl (fS rfl <| fN) <| callg [] [] (gd rfl rfl rfl rfl) rfl Try.func95 rfl rfl (braidlaw07_refused_ok _) (aQ rfl <| aN) rN fun r105 n106 => R rfl (pkT rfl rfl) <| R rfl (mv rfl) <| lSplit 173 rfl (fun h107 => ?_) (fun h107 => ?_)
                · skip
                  refine lKn 171 rfl h107 <| lKn 172 rfl h107 <| Efg (gd rfl rfl rfl rfl) rfl rfl (lit (R := u8R) ([5, 1, 1] : List UInt8) 67 (pP rfl rfl <| pP rfl rfl <| pP rfl rfl <| pN) rfl Try.underlying32 ti5 rfl rfl) fun v108 => lFrz 67 [174] rfl (fS rfl <| fN) <| callg [] [] (gd rfl rfl rfl rfl) rfl Try.func95 rfl rfl (braidlaw07_refused_ok _) (aQ rfl <| aN) rN fun r109 n110 => R rfl (pkT rfl rfl) <| R rfl (mv rfl) <| lSplit 177 rfl (fun h111 => ?_) (fun h111 => ?_)
                  · skip
                    refine lKn 175 rfl h111 <| lKn 176 rfl h111 <| Efg (gd rfl rfl rfl rfl) rfl rfl (lit (R := u8R) ([5, 1, 249, 1, 145] : List UInt8) 68 (pP rfl rfl <| pP rfl rfl <| pP rfl rfl <| pP rfl rfl <| pP rfl rfl <| pN) rfl Try.underlying32 ti5 rfl rfl) fun v112 => lFrz 68 [178] rfl (fS rfl <| fN) <| callg [] [] (gd rfl rfl rfl rfl) rfl Try.func95 rfl rfl (braidlaw07_refused_ok _) (aQ rfl <| aN) rN fun r113 n114 => R rfl (pkT rfl rfl) <| R rfl (mv rfl) <| lSplit 181 rfl (fun h115 => ?_) (fun h115 => ?_)
                    · skip
                      refine lKn 179 rfl h115 <| lKn 180 rfl h115 <| Efg (gd rfl rfl rfl rfl) rfl rfl (lit (R := u8R) ([6, 0, 0] : List UInt8) 69 (pP rfl rfl <| pP rfl rfl <| pP rfl rfl <| pN) rfl Try.underlying32 ti5 rfl rfl) fun v116 => lFrz 69 [182] rfl (fS rfl <| fN) <| callg [] [] (gd rfl rfl rfl rfl) rfl Try.func95 rfl rfl (braidlaw07_refused_ok _) (aQ rfl <| aN) rN fun r117 n118 => R rfl (pkT rfl rfl) <| R rfl (asg rfl) <| gNil <| eMid (fun aa ww h => h.sub [44, 46, 48, 57, 59, 61] (sS rfl <| sS rfl <| sS rfl <| sS rfl <| sS rfl <| sS rfl <| sS rfl <| sS rfl <| sS rfl <| sS rfl <| sS rfl <| sS rfl <| sS rfl <| sS rfl <| sS rfl <| sS rfl <| sS rfl <| sS rfl <| sN) (rR rfl rfl <| rR rfl rfl <| rR rfl rfl <| rR rfl rfl <| rR rfl rfl <| rR rfl rfl <| rN))
                    · skip
                      refine lKn 179 rfl h115 <| lKn 180 rfl h115 <| lSkip (gd rfl rfl rfl rfl) rfl rfl <| lSkip (gd rfl rfl rfl rfl) rfl rfl <| R rfl (pkF rfl rfl) <| R rfl (asg rfl) <| gNil <| eMid (fun aa ww h => h.sub [44, 46, 48, 57, 59, 61] (sS rfl <| sS rfl <| sS rfl <| sS rfl <| sS rfl <| sS rfl <| sS rfl <| sS rfl <| sS rfl <| sS rfl <| sS rfl <| sS rfl <| sS rfl <| sS rfl <| sS rfl <| sS rfl <| sS rfl <| sS rfl <| sN) (rR rfl rfl <| rR rfl rfl <| rR rfl rfl <| rR rfl rfl <| rR rfl rfl <| rR rfl rfl <| rN))
                  · skip
                    refine lKn 175 rfl h111 <| lKn 176 rfl h111 <| lSkip (gd rfl rfl rfl rfl) rfl rfl <| lSkip (gd rfl rfl rfl rfl) rfl rfl <| R rfl (pkF rfl rfl) <| R rfl (mv rfl) <| lSkip (gd rfl rfl rfl rfl) rfl rfl <| lSkip (gd rfl rfl rfl rfl) rfl rfl <| R rfl (pkF rfl rfl) <| R rfl (asg rfl) <| gNil <| eMid (fun aa ww h => h.sub [44, 46, 48, 57, 59, 61] (sS rfl <| sS rfl <| sS rfl <| sS rfl <| sS rfl <| sS rfl <| sS rfl <| sS rfl <| sS rfl <| sS rfl <| sS rfl <| sS rfl <| sS rfl <| sS rfl <| sS rfl <| sS rfl <| sS rfl <| sS rfl <| sN) (rR rfl rfl <| rR rfl rfl <| rR rfl rfl <| rR rfl rfl <| rR rfl rfl <| rR rfl rfl <| rN))
                · skip
                  refine lKn 171 rfl h107 <| lKn 172 rfl h107 <| lSkip (gd rfl rfl rfl rfl) rfl rfl <| lSkip (gd rfl rfl rfl rfl) rfl rfl <| R rfl (pkF rfl rfl) <| R rfl (mv rfl) <| lSkip (gd rfl rfl rfl rfl) rfl rfl <| lSkip (gd rfl rfl rfl rfl) rfl rfl <| R rfl (pkF rfl rfl) <| R rfl (mv rfl) <| lSkip (gd rfl rfl rfl rfl) rfl rfl <| lSkip (gd rfl rfl rfl rfl) rfl rfl <| R rfl (pkF rfl rfl) <| R rfl (asg rfl) <| gNil <| eMid (fun aa ww h => h.sub [44, 46, 48, 57, 59, 61] (sS rfl <| sS rfl <| sS rfl <| sS rfl <| sS rfl <| sS rfl <| sS rfl <| sS rfl <| sS rfl <| sS rfl <| sS rfl <| sS rfl <| sS rfl <| sS rfl <| sS rfl <| sS rfl <| sS rfl <| sS rfl <| sN) (rR rfl rfl <| rR rfl rfl <| rR rfl rfl <| rR rfl rfl <| rR rfl rfl <| rR rfl rfl <| rN))
              · skip
                refine lKn 167 rfl h103 <| lKn 168 rfl h103 <| lSkip (gd rfl rfl rfl rfl) rfl rfl <| lSkip (gd rfl rfl rfl rfl) rfl rfl <| R rfl (pkF rfl rfl) <| R rfl (mv rfl) <| lSkip (gd rfl rfl rfl rfl) rfl rfl <| lSkip (gd rfl rfl rfl rfl) rfl rfl <| R rfl (pkF rfl rfl) <| R rfl (mv rfl) <| lSkip (gd rfl rfl rfl rfl) rfl rfl <| lSkip (gd rfl rfl rfl rfl) rfl rfl <| R rfl (pkF rfl rfl) <| R rfl (mv rfl) <| lSkip (gd rfl rfl rfl rfl) rfl rfl <| lSkip (gd rfl rfl rfl rfl) rfl rfl <| R rfl (pkF rfl rfl) <| R rfl (asg rfl) <| gNil <| eMid (fun aa ww h => h.sub [44, 46, 48, 57, 59, 61] (sS rfl <| sS rfl <| sS rfl <| sS rfl <| sS rfl <| sS rfl <| sS rfl <| sS rfl <| sS rfl <| sS rfl <| sS rfl <| sS rfl <| sS rfl <| sS rfl <| sS rfl <| sS rfl <| sS rfl <| sS rfl <| sN) (rR rfl rfl <| rR rfl rfl <| rR rfl rfl <| rR rfl rfl <| rR rfl rfl <| rR rfl rfl <| rN))
            · skip
              refine lKn 163 rfl h99 <| lKn 164 rfl h99 <| lSkip (gd rfl rfl rfl rfl) rfl rfl <| lSkip (gd rfl rfl rfl rfl) rfl rfl <| R rfl (pkF rfl rfl) <| R rfl (mv rfl) <| lSkip (gd rfl rfl rfl rfl) rfl rfl <| lSkip (gd rfl rfl rfl rfl) rfl rfl <| R rfl (pkF rfl rfl) <| R rfl (mv rfl) <| lSkip (gd rfl rfl rfl rfl) rfl rfl <| lSkip (gd rfl rfl rfl rfl) rfl rfl <| R rfl (pkF rfl rfl) <| R rfl (mv rfl) <| lSkip (gd rfl rfl rfl rfl) rfl rfl <| lSkip (gd rfl rfl rfl rfl) rfl rfl <| R rfl (pkF rfl rfl) <| R rfl (mv rfl) <| lSkip (gd rfl rfl rfl rfl) rfl rfl <| lSkip (gd rfl rfl rfl rfl) rfl rfl <| R rfl (pkF rfl rfl) <| R rfl (asg rfl) <| gNil <| eMid (fun aa ww h => h.sub [44, 46, 48, 57, 59, 61] (sS rfl <| sS rfl <| sS rfl <| sS rfl <| sS rfl <| sS rfl <| sS rfl <| sS rfl <| sS rfl <| sS rfl <| sS rfl <| sS rfl <| sS rfl <| sS rfl <| sS rfl <| sS rfl <| sS rfl <| sS rfl <| sN) (rR rfl rfl <| rR rfl rfl <| rR rfl rfl <| rR rfl rfl <| rR rfl rfl <| rR rfl rfl <| rN))
          · skip
            refine lKn 159 rfl h95 <| lKn 160 rfl h95 <| lSkip (gd rfl rfl rfl rfl) rfl rfl <| lSkip (gd rfl rfl rfl rfl) rfl rfl <| R rfl (pkF rfl rfl) <| R rfl (mv rfl) <| lSkip (gd rfl rfl rfl rfl) rfl rfl <| lSkip (gd rfl rfl rfl rfl) rfl rfl <| R rfl (pkF rfl rfl) <| R rfl (mv rfl) <| lSkip (gd rfl rfl rfl rfl) rfl rfl <| lSkip (gd rfl rfl rfl rfl) rfl rfl <| R rfl (pkF rfl rfl) <| R rfl (mv rfl) <| lSkip (gd rfl rfl rfl rfl) rfl rfl <| lSkip (gd rfl rfl rfl rfl) rfl rfl <| R rfl (pkF rfl rfl) <| R rfl (mv rfl) <| lSkip (gd rfl rfl rfl rfl) rfl rfl <| lSkip (gd rfl rfl rfl rfl) rfl rfl <| R rfl (pkF rfl rfl) <| R rfl (mv rfl) <| lSkip (gd rfl rfl rfl rfl) rfl rfl <| lSkip (gd rfl rfl rfl rfl) rfl rfl <| R rfl (pkF rfl rfl) <| R rfl (asg rfl) <| gNil <| eMid (fun aa ww h => h.sub [44, 46, 48, 57, 59, 61] (sS rfl <| sS rfl <| sS rfl <| sS rfl <| sS rfl <| sS rfl <| sS rfl <| sS rfl <| sS rfl <| sS rfl <| sS rfl <| sS rfl <| sS rfl <| sS rfl <| sS rfl <| sS rfl <| sS rfl <| sS rfl <| sN) (rR rfl rfl <| rR rfl rfl <| rR rfl rfl <| rR rfl rfl <| rR rfl rfl <| rR rfl rfl <| rN))
        · skip
          refine lKn 155 rfl h91 <| lKn 156 rfl h91 <| lSkip (gd rfl rfl rfl rfl) rfl rfl <| lSkip (gd rfl rfl rfl rfl) rfl rfl <| R rfl (pkF rfl rfl) <| R rfl (mv rfl) <| lSkip (gd rfl rfl rfl rfl) rfl rfl <| lSkip (gd rfl rfl rfl rfl) rfl rfl <| R rfl (pkF rfl rfl) <| R rfl (mv rfl) <| lSkip (gd rfl rfl rfl rfl) rfl rfl <| lSkip (gd rfl rfl rfl rfl) rfl rfl <| R rfl (pkF rfl rfl) <| R rfl (mv rfl) <| lSkip (gd rfl rfl rfl rfl) rfl rfl <| lSkip (gd rfl rfl rfl rfl) rfl rfl <| R rfl (pkF rfl rfl) <| R rfl (mv rfl) <| lSkip (gd rfl rfl rfl rfl) rfl rfl <| lSkip (gd rfl rfl rfl rfl) rfl rfl <| R rfl (pkF rfl rfl) <| R rfl (mv rfl) <| lSkip (gd rfl rfl rfl rfl) rfl rfl <| lSkip (gd rfl rfl rfl rfl) rfl rfl <| R rfl (pkF rfl rfl) <| R rfl (mv rfl) <| lSkip (gd rfl rfl rfl rfl) rfl rfl <| lSkip (gd rfl rfl rfl rfl) rfl rfl <| R rfl (pkF rfl rfl) <| R rfl (asg rfl) <| gNil <| eMid (fun aa ww h => h.sub [44, 46, 48, 57, 59, 61] (sS rfl <| sS rfl <| sS rfl <| sS rfl <| sS rfl <| sS rfl <| sS rfl <| sS rfl <| sS rfl <| sS rfl <| sS rfl <| sS rfl <| sS rfl <| sS rfl <| sS rfl <| sS rfl <| sS rfl <| sS rfl <| sN) (rR rfl rfl <| rR rfl rfl <| rR rfl rfl <| rR rfl rfl <| rR rfl rfl <| rR rfl rfl <| rN))
      · skip
        refine lKn 152 rfl h87 <| lSkip (gd rfl rfl rfl rfl) rfl rfl <| lSkip (gd rfl rfl rfl rfl) rfl rfl <| R rfl (pkF rfl rfl) <| R rfl (mv rfl) <| lSkip (gd rfl rfl rfl rfl) rfl rfl <| lSkip (gd rfl rfl rfl rfl) rfl rfl <| R rfl (pkF rfl rfl) <| R rfl (mv rfl) <| lSkip (gd rfl rfl rfl rfl) rfl rfl <| lSkip (gd rfl rfl rfl rfl) rfl rfl <| R rfl (pkF rfl rfl) <| R rfl (mv rfl) <| lSkip (gd rfl rfl rfl rfl) rfl rfl <| lSkip (gd rfl rfl rfl rfl) rfl rfl <| R rfl (pkF rfl rfl) <| R rfl (mv rfl) <| lSkip (gd rfl rfl rfl rfl) rfl rfl <| lSkip (gd rfl rfl rfl rfl) rfl rfl <| R rfl (pkF rfl rfl) <| R rfl (mv rfl) <| lSkip (gd rfl rfl rfl rfl) rfl rfl <| lSkip (gd rfl rfl rfl rfl) rfl rfl <| R rfl (pkF rfl rfl) <| R rfl (mv rfl) <| lSkip (gd rfl rfl rfl rfl) rfl rfl <| lSkip (gd rfl rfl rfl rfl) rfl rfl <| R rfl (pkF rfl rfl) <| R rfl (mv rfl) <| lSkip (gd rfl rfl rfl rfl) rfl rfl <| lSkip (gd rfl rfl rfl rfl) rfl rfl <| R rfl (pkF rfl rfl) <| R rfl (asg rfl) <| gNil <| eMid (fun aa ww h => h.sub [44, 46, 48, 57, 59, 61] (sS rfl <| sS rfl <| sS rfl <| sS rfl <| sS rfl <| sS rfl <| sS rfl <| sS rfl <| sS rfl <| sS rfl <| sS rfl <| sS rfl <| sS rfl <| sS rfl <| sS rfl <| sS rfl <| sS rfl <| sS rfl <| sN) (rR rfl rfl <| rR rfl rfl <| rR rfl rfl <| rR rfl rfl <| rR rfl rfl <| rR rfl rfl <| rN))
    · skip
      refine gMid (fun (s119 : Bool) aa ww => Sta (ctx 287 H [] w) [(8, .val (n47 0)), (9, .rd i64R r46.2), (10, .val (n51 0)), (11, .rd i64R r50.2), (12, .val (n56 0)), (13, .rd i64R r55.2), (30, .rd boolR s84), (31, .rd boolR s119)] [(44, some ((n47 0), .list u8R 5 r46.1)), (46, some ((n51 0), .list u8R 5 r50.1)), (48, some ((n56 0), .list u8R 5 r55.1))] aa ww) ?_ (fun s119 => ?_)
      · skip
        refine gReg <| R rfl (mv rfl) <| R rfl (I.eql rfl rfl) <| R rfl (mv rfl) <| lSplit 187 rfl (fun h120 => ?_) (fun h120 => ?_)
        · skip
          refine lKn 186 rfl h120 <| lRun (gd rfl rfl rfl rfl) rfl rfl (mv rfl) <| lRun (gd rfl rfl rfl rfl) rfl rfl (I.eql rfl rfl) <| R rfl (pkT rfl rfl) <| R rfl (mv rfl) <| lSplit 191 rfl (fun h121 => ?_) (fun h121 => ?_)
          · skip
            refine lKn 189 rfl h121 <| lKn 190 rfl h121 <| lRun (gd rfl rfl rfl rfl) rfl rfl (mv rfl) <| lRun (gd rfl rfl rfl rfl) rfl rfl (I.eql rfl rfl) <| R rfl (pkT rfl rfl) <| R rfl (mv rfl) <| lSplit 195 rfl (fun h122 => ?_) (fun h122 => ?_)
            · skip
              refine lKn 193 rfl h122 <| lKn 194 rfl h122 <| lRun (gd rfl rfl rfl rfl) rfl rfl (mv rfl) <| lRun (gd rfl rfl rfl rfl) rfl rfl (I.eql rfl rfl) <| R rfl (pkT rfl rfl) <| R rfl (mv rfl) <| lSplit 199 rfl (fun h123 => ?_) (fun h123 => ?_)
              · skip
                refine lKn 197 rfl h123 <| lKn 198 rfl h123 <| lRun (gd rfl rfl rfl rfl) rfl rfl (mv rfl) <| lRun (gd rfl rfl rfl rfl) rfl rfl (I.eql rfl rfl) <| R rfl (pkT rfl rfl) <| R rfl (mv rfl) <| lSplit 203 rfl (fun h124 => ?_) (fun h124 => ?_)
                · skip
                  refine lKn 201 rfl h124 <| lKn 202 rfl h124 <| lRun (gd rfl rfl rfl rfl) rfl rfl (mv rfl) <| lRun (gd rfl rfl rfl rfl) rfl rfl (I.eql rfl rfl) <| R rfl (pkT rfl rfl) <| R rfl (mv rfl) <| lSplit 207 rfl (fun h125 => ?_) (fun h125 => ?_)
                  · skip
                    refine lKn 205 rfl h125 <| lKn 206 rfl h125 <| lRun (gd rfl rfl rfl rfl) rfl rfl (mv rfl) <| lRun (gd rfl rfl rfl rfl) rfl rfl (len' rfl (.own 57 rfl) rfl Try.underlying110) <| lRun (gd rfl rfl rfl rfl) rfl rfl (I.eql rfl rfl) <| R rfl (pkT rfl rfl) <| R rfl (mv rfl) <| lSplit 212 rfl (fun h126 => ?_) (fun h126 => ?_)
                    · skip
                      refine lKn 210 rfl h126 <| lKn 211 rfl h126 <| lRun (gd rfl rfl rfl rfl) rfl rfl (mv rfl) <| lBind fun x127 h128 => lRun (gd rfl rfl rfl rfl) rfl rfl (ixO 57 rfl rfl rfl h128 Try.underlying110 ti105) <| lRun (gd rfl rfl rfl rfl) rfl rfl (fa 57 rfl rfl list_base (nonil h128) Try.underlying105 rfl (by exact ti83)) <| lRun (gd rfl rfl rfl rfl) rfl rfl (ld 57 rfl rfl ((Foc.el h128).part (pt_api_Frame_IDs _)) ty83 rfl) <| lRun (gd rfl rfl rfl rfl) rfl rfl (len' rfl .rd rfl Try.underlying83) <| lRun (gd rfl rfl rfl rfl) rfl rfl (I.eql rfl rfl) <| R rfl (pkT rfl rfl) <| R rfl (mv rfl) <| lSplit 220 rfl (fun h129 => ?_) (fun h129 => ?_)
                      · skip
                        refine lKn 218 rfl h129 <| lKn 219 rfl h129 <| lRun (gd rfl rfl rfl rfl) rfl rfl (mv rfl) <| lRun (gd rfl rfl rfl rfl) rfl rfl (I.eql rfl rfl) <| R rfl (pkT rfl rfl) <| R rfl (mv rfl) <| lSplit 224 rfl (fun h130 => ?_) (fun h130 => ?_)
                        · skip
                          refine lKn 222 rfl h130 <| lKn 223 rfl h130 <| lRun (gd rfl rfl rfl rfl) rfl rfl (mv rfl) <| lRun (gd rfl rfl rfl rfl) rfl rfl (len' rfl (.own 59 rfl) rfl Try.underlying110) <| lRun (gd rfl rfl rfl rfl) rfl rfl (I.eql rfl rfl) <| R rfl (pkT rfl rfl) <| R rfl (mv rfl) <| lSplit 229 rfl (fun h131 => ?_) (fun h131 => ?_)
                          · skip
                            refine lKn 227 rfl h131 <| lKn 228 rfl h131 <| lRun (gd rfl rfl rfl rfl) rfl rfl (mv rfl) <| lBind fun x132 h133 => lRun (gd rfl rfl rfl rfl) rfl rfl (ixO 59 rfl rfl rfl h133 Try.underlying110 ti105) <| lRun (gd rfl rfl rfl rfl) rfl rfl (fa 59 rfl rfl list_base (nonil h133) Try.underlying105 rfl (by exact ti83)) <| lRun (gd rfl rfl rfl rfl) rfl rfl (ld 59 rfl rfl ((Foc.el h133).part (pt_api_Frame_IDs _)) ty83 rfl) <| lRun (gd rfl rfl rfl rfl) rfl rfl (len' rfl .rd rfl Try.underlying83) <| lRun (gd rfl rfl rfl rfl) rfl rfl (I.eql rfl rfl) <| R rfl (pkT rfl rfl) <| R rfl (mv rfl) <| lSplit 237 rfl (fun h134 => ?_) (fun h134 => ?_)
                            · skip
                              refine lKn 235 rfl h134 <| lKn 236 rfl h134 <| lRun (gd rfl rfl rfl rfl) rfl rfl (mv rfl) <| lRun (gd rfl rfl rfl rfl) rfl rfl (I.eql rfl rfl) <| R rfl (pkT rfl rfl) <| R rfl (mv rfl) <| lSplit 241 rfl (fun h135 => ?_) (fun h135 => ?_)
                              · skip
                                refine lKn 239 rfl h135 <| lKn 240 rfl h135 <| lRun (gd rfl rfl rfl rfl) rfl rfl (mv rfl) <| lRun (gd rfl rfl rfl rfl) rfl rfl (len' rfl (.own 61 rfl) rfl Try.underlying110) <| lRun (gd rfl rfl rfl rfl) rfl rfl (I.eql rfl rfl) <| R rfl (pkT rfl rfl) <| R rfl (asg rfl) <| lName 31 rfl fun y136 => gNil <| eMid (fun aa ww h => h.sub [44, 46, 48] (sS rfl <| sS rfl <| sS rfl <| sS rfl <| sS rfl <| sS rfl <| sS rfl <| sS rfl <| sN) (rR rfl rfl <| rR rfl rfl <| rR rfl rfl <| rN))
                              · skip
                                refine lKn 239 rfl h135 <| lKn 240 rfl h135 <| lSkip (gd rfl rfl rfl rfl) rfl rfl <| lSkip (gd rfl rfl rfl rfl) rfl rfl <| lSkip (gd rfl rfl rfl rfl) rfl rfl <| R rfl (pkF rfl rfl) <| R rfl (asg rfl) <| gNil <| eMid (fun aa ww h => h.sub [44, 46, 48] (sS rfl <| sS rfl <| sS rfl <| sS rfl <| sS rfl <| sS rfl <| sS rfl <| sS rfl <| sN) (rR rfl rfl <| rR rfl rfl <| rR rfl rfl <| rN))
                            · skip
                              refine lKn 235 rfl h134 <| lKn 236 rfl h134 <| lSkip (gd rfl rfl rfl rfl) rfl rfl <| lSkip (gd rfl rfl rfl rfl) rfl rfl <| R rfl (pkF rfl rfl) <| R rfl (mv rfl) <| lSkip (gd rfl rfl rfl rfl) rfl rfl <| lSkip (gd rfl rfl rfl rfl) rfl rfl <| lSkip (gd rfl rfl rfl rfl) rfl rfl <| R rfl (pkF rfl rfl) <| R rfl (asg rfl) <| gNil <| eMid (fun aa ww h => h.sub [44, 46, 48] (sS rfl <| sS rfl <| sS rfl <| sS rfl <| sS rfl <| sS rfl <| sS rfl <| sS rfl <| sN) (rR rfl rfl <| rR rfl rfl <| rR rfl rfl <| rN))
                          · skip
                            refine lKn 227 rfl h131 <| lKn 228 rfl h131 <| lSkip (gd rfl rfl rfl rfl) rfl rfl <| lSkip (gd rfl rfl rfl rfl) rfl rfl <| lSkip (gd rfl rfl rfl rfl) rfl rfl <| lSkip (gd rfl rfl rfl rfl) rfl rfl <| lSkip (gd rfl rfl rfl rfl) rfl rfl <| lSkip (gd rfl rfl rfl rfl) rfl rfl <| R rfl (pkF rfl rfl) <| R rfl (mv rfl) <| lSkip (gd rfl rfl rfl rfl) rfl rfl <| lSkip (gd rfl rfl rfl rfl) rfl rfl <| R rfl (pkF rfl rfl) <| R rfl (mv rfl) <| lSkip (gd rfl rfl rfl rfl) rfl rfl <| lSkip (gd rfl rfl rfl rfl) rfl rfl <| lSkip (gd rfl rfl rfl rfl) rfl rfl <| R rfl (pkF rfl rfl) <| R rfl (asg rfl) <| gNil <| eMid (fun aa ww h => h.sub [44, 46, 48] (sS rfl <| sS rfl <| sS rfl <| sS rfl <| sS rfl <| sS rfl <| sS rfl <| sS rfl <| sN) (rR rfl rfl <| rR rfl rfl <| rR rfl rfl <| rN))
                        · skip
                          refine lKn 222 rfl h130 <| lKn 223 rfl h130 <| lSkip (gd rfl rfl rfl rfl) rfl rfl <| lSkip (gd rfl rfl rfl rfl) rfl rfl <| lSkip (gd rfl rfl rfl rfl) rfl rfl <| R rfl (pkF rfl rfl) <| R rfl (mv rfl) <| lSkip (gd rfl rfl rfl rfl) rfl rfl <| lSkip (gd rfl rfl rfl rfl) rfl rfl <| lSkip (gd rfl rfl rfl rfl) rfl rfl <| lSkip (gd rfl rfl rfl rfl) rfl rfl <| lSkip (gd rfl rfl rfl rfl) rfl rfl <| lSkip (gd rfl rfl rfl rfl) rfl rfl <| R rfl (pkF rfl rfl) <| R rfl (mv rfl) <| lSkip (gd rfl rfl rfl rfl) rfl rfl <| lSkip (gd rfl rfl rfl rfl) rfl rfl <| R rfl (pkF rfl rfl) <| R rfl (mv rfl) <| lSkip (gd rfl rfl rfl rfl) rfl rfl <| lSkip (gd rfl rfl rfl rfl) rfl rfl <| lSkip (gd rfl rfl rfl rfl) rfl rfl <| R rfl (pkF rfl rfl) <| R rfl (asg rfl) <| gNil <| eMid (fun aa ww h => h.sub [44, 46, 48] (sS rfl <| sS rfl <| sS rfl <| sS rfl <| sS rfl <| sS rfl <| sS rfl <| sS rfl <| sN) (rR rfl rfl <| rR rfl rfl <| rR rfl rfl <| rN))
                      · skip
                        refine lKn 218 rfl h129 <| lKn 219 rfl h129 <| lSkip (gd rfl rfl rfl rfl) rfl rfl <| lSkip (gd rfl rfl rfl rfl) rfl rfl <| R rfl (pkF rfl rfl) <| R rfl (mv rfl) <| lSkip (gd rfl rfl rfl rfl) rfl rfl <| lSkip (gd rfl rfl rfl rfl) rfl rfl <| lSkip (gd rfl rfl rfl rfl) rfl rfl <| R rfl (pkF rfl rfl) <| R rfl (mv rfl) <| lSkip (gd rfl rfl rfl rfl) rfl rfl <| lSkip (gd rfl rfl rfl rfl) rfl rfl <| lSkip (gd rfl rfl rfl rfl) rfl rfl <| lSkip (gd rfl rfl rfl rfl) rfl rfl <| lSkip (gd rfl rfl rfl rfl) rfl rfl <| lSkip (gd rfl rfl rfl rfl) rfl rfl <| R rfl (pkF rfl rfl) <| R rfl (mv rfl) <| lSkip (gd rfl rfl rfl rfl) rfl rfl <| lSkip (gd rfl rfl rfl rfl) rfl rfl <| R rfl (pkF rfl rfl) <| R rfl (mv rfl) <| lSkip (gd rfl rfl rfl rfl) rfl rfl <| lSkip (gd rfl rfl rfl rfl) rfl rfl <| lSkip (gd rfl rfl rfl rfl) rfl rfl <| R rfl (pkF rfl rfl) <| R rfl (asg rfl) <| gNil <| eMid (fun aa ww h => h.sub [44, 46, 48] (sS rfl <| sS rfl <| sS rfl <| sS rfl <| sS rfl <| sS rfl <| sS rfl <| sS rfl <| sN) (rR rfl rfl <| rR rfl rfl <| rR rfl rfl <| rN))
                    · skip
                      refine lKn 210 rfl h126 <| lKn 211 rfl h126 <| lSkip (gd rfl rfl rfl rfl) rfl rfl <| lSkip (gd rfl rfl rfl rfl) rfl rfl <| lSkip (gd rfl rfl rfl rfl) rfl rfl <| lSkip (gd rfl rfl rfl rfl) rfl rfl <| lSkip (gd rfl rfl rfl rfl) rfl rfl <| lSkip (gd rfl rfl rfl rfl) rfl rfl <| R rfl (pkF rfl rfl) <| R rfl (mv rfl) <| lSkip (gd rfl rfl rfl rfl) rfl rfl <| lSkip (gd rfl rfl rfl rfl) rfl rfl <| R rfl (pkF rfl rfl) <| R rfl (mv rfl) <| lSkip (gd rfl rfl rfl rfl) rfl rfl <| lSkip (gd rfl rfl rfl rfl) rfl rfl <| lSkip (gd rfl rfl rfl rfl) rfl rfl <| R rfl (pkF rfl rfl) <| R rfl (mv rfl) <| lSkip (gd rfl rfl rfl rfl) rfl rfl <| lSkip (gd rfl rfl rfl rfl) rfl rfl <| lSkip (gd rfl rfl rfl rfl) rfl rfl <| lSkip (gd rfl rfl rfl rfl) rfl rfl <| lSkip (gd rfl rfl rfl rfl) rfl rfl <| lSkip (gd rfl rfl rfl rfl) rfl rfl <| R rfl (pkF rfl rfl) <| R rfl (mv rfl) <| lSkip (gd rfl rfl rfl rfl) rfl rfl <| lSkip (gd rfl rfl rfl rfl) rfl rfl <| R rfl (pkF rfl rfl) <| R rfl (mv rfl) <| lSkip (gd rfl rfl rfl rfl) rfl rfl <| lSkip (gd rfl rfl rfl rfl) rfl rfl <| lSkip (gd rfl rfl rfl rfl) rfl rfl <| R rfl (pkF rfl rfl) <| R rfl (asg rfl) <| gNil <| eMid (fun aa ww h => h.sub [44, 46, 48] (sS rfl <| sS rfl <| sS rfl <| sS rfl <| sS rfl <| sS rfl <| sS rfl <| sS rfl <| sN) (rR rfl rfl <| rR rfl rfl <| rR rfl rfl <| rN))
                  · skip
                    refine lKn 205 rfl h125 <| lKn 206 rfl h125 <| lSkip (gd rfl rfl rfl rfl) rfl rfl <| lSkip (gd rfl rfl rfl rfl) rfl rfl <| lSkip (gd rfl rfl rfl rfl) rfl rfl <| R rfl (pkF rfl rfl) <| R rfl (mv rfl) <| lSkip (gd rfl rfl rfl rfl) rfl rfl <| lSkip (gd rfl rfl rfl rfl) rfl rfl <| lSkip (gd rfl rfl rfl rfl) rfl rfl <| lSkip (gd rfl rfl rfl rfl) rfl rfl <| lSkip (gd rfl rfl rfl rfl) rfl rfl <| lSkip (gd rfl rfl rfl rfl) rfl rfl <| R rfl (pkF rfl rfl) <| R rfl (mv rfl) <| lSkip (gd rfl rfl rfl rfl) rfl rfl <| lSkip (gd rfl rfl rfl rfl) rfl rfl <| R rfl (pkF rfl rfl) <| R rfl (mv rfl) <| lSkip (gd rfl rfl rfl rfl) rfl rfl <| lSkip (gd rfl rfl rfl rfl) rfl rfl <| lSkip (gd rfl rfl rfl rfl) rfl rfl <| R rfl (pkF rfl rfl) <| R rfl (mv rfl) <| lSkip (gd rfl rfl rfl rfl) rfl rfl <| lSkip (gd rfl rfl rfl rfl) rfl rfl <| lSkip (gd rfl rfl rfl rfl) rfl rfl <| lSkip (gd rfl rfl rfl rfl) rfl rfl <| lSkip (gd rfl rfl rfl rfl) rfl rfl <| lSkip (gd rfl rfl rfl rfl) rfl rfl <| R rfl (pkF rfl rfl) <| R rfl (mv rfl) <| lSkip (gd rfl rfl rfl rfl) rfl rfl <| lSkip (gd rfl rfl rfl rfl) rfl rfl <| R rfl (pkF rfl rfl) <| R rfl (mv rfl) <| lSkip (gd rfl rfl rfl rfl) rfl rfl <| lSkip (gd rfl rfl rfl rfl) rfl rfl <| lSkip (gd rfl rfl rfl rfl) rfl rfl <| R rfl (pkF rfl rfl) <| R rfl (asg rfl) <| gNil <| eMid (fun aa ww h => h.sub [44, 46, 48] (sS rfl <| sS rfl <| sS rfl <| sS rfl <| sS rfl <| sS rfl <| sS rfl <| sS rfl <| sN) (rR rfl rfl <| rR rfl rfl <| rR rfl rfl <| rN))
                · skip
                  refine lKn 201 rfl h124 <| lKn 202 rfl h124 <| lSkip (gd rfl rfl rfl rfl) rfl rfl <| lSkip (gd rfl rfl rfl rfl) rfl rfl <| R rfl (pkF rfl rfl) <| R rfl (mv rfl) <| lSkip (gd rfl rfl rfl rfl) rfl rfl <| lSkip (gd rfl rfl rfl rfl) rfl rfl <| lSkip (gd rfl rfl rfl rfl) rfl rfl <| R rfl (pkF rfl rfl) <| R rfl (mv rfl) <| lSkip (gd rfl rfl rfl rfl) rfl rfl <| lSkip (gd rfl rfl rfl rfl) rfl rfl <| lSkip (gd rfl rfl rfl rfl) rfl rfl <| lSkip (gd rfl rfl rfl rfl) rfl rfl <| lSkip (gd rfl rfl rfl rfl) rfl rfl <| lSkip (gd rfl rfl rfl rfl) rfl rfl <| R rfl (pkF rfl rfl) <| R rfl (mv rfl) <| lSkip (gd rfl rfl rfl rfl) rfl rfl <| lSkip (gd rfl rfl rfl rfl) rfl rfl <| R rfl (pkF rfl rfl) <| R rfl (mv rfl) <| lSkip (gd rfl rfl rfl rfl) rfl rfl <| lSkip (gd rfl rfl rfl rfl) rfl rfl <| lSkip (gd rfl rfl rfl rfl) rfl rfl <| R rfl (pkF rfl rfl) <| R rfl (mv rfl) <| lSkip (gd rfl rfl rfl rfl) rfl rfl <| lSkip (gd rfl rfl rfl rfl) rfl rfl <| lSkip (gd rfl rfl rfl rfl) rfl rfl <| lSkip (gd rfl rfl rfl rfl) rfl rfl <| lSkip (gd rfl rfl rfl rfl) rfl rfl <| lSkip (gd rfl rfl rfl rfl) rfl rfl <| R rfl (pkF rfl rfl) <| R rfl (mv rfl) <| lSkip (gd rfl rfl rfl rfl) rfl rfl <| lSkip (gd rfl rfl rfl rfl) rfl rfl <| R rfl (pkF rfl rfl) <| R rfl (mv rfl) <| lSkip (gd rfl rfl rfl rfl) rfl rfl <| lSkip (gd rfl rfl rfl rfl) rfl rfl <| lSkip (gd rfl rfl rfl rfl) rfl rfl <| R rfl (pkF rfl rfl) <| R rfl (asg rfl) <| gNil <| eMid (fun aa ww h => h.sub [44, 46, 48] (sS rfl <| sS rfl <| sS rfl <| sS rfl <| sS rfl <| sS rfl <| sS rfl <| sS rfl <| sN) (rR rfl rfl <| rR rfl rfl <| rR rfl rfl <| rN))
              · skip
                refine lKn 197 rfl h123 <| lKn 198 rfl h123 <| lSkip (gd rfl rfl rfl rfl) rfl rfl <| lSkip (gd rfl rfl rfl rfl) rfl rfl <| R rfl (pkF rfl rfl) <| R rfl (mv rfl) <| lSkip (gd rfl rfl rfl rfl) rfl rfl <| lSkip (gd rfl rfl rfl rfl) rfl rfl <| R rfl (pkF rfl rfl) <| R rfl (mv rfl) <| lSkip (gd rfl rfl rfl rfl) rfl rfl <| lSkip (gd rfl rfl rfl rfl) rfl rfl <| lSkip (gd rfl rfl rfl rfl) rfl rfl <| R rfl (pkF rfl rfl) <| R rfl (mv rfl) <| lSkip (gd rfl rfl rfl rfl) rfl rfl <| lSkip (gd rfl rfl rfl rfl) rfl rfl <| lSkip (gd rfl rfl rfl rfl) rfl rfl <| lSkip (gd rfl rfl rfl rfl) rfl rfl <| lSkip (gd rfl rfl rfl rfl) rfl rfl <| lSkip (gd rfl rfl rfl rfl) rfl rfl <| R rfl (pkF rfl rfl) <| R rfl (mv rfl) <| lSkip (gd rfl rfl rfl rfl) rfl rfl <| lSkip (gd rfl rfl rfl rfl) rfl rfl <| R rfl (pkF rfl rfl) <| R rfl (mv rfl) <| lSkip (gd rfl rfl rfl rfl) rfl rfl <| lSkip (gd rfl rfl rfl rfl) rfl rfl <| lSkip (gd rfl rfl rfl rfl) rfl rfl <| R rfl (pkF rfl rfl) <| R rfl (mv rfl) <| lSkip (gd rfl rfl rfl rfl) rfl rfl <| lSkip (gd rfl rfl rfl rfl) rfl rfl <| lSkip (gd rfl rfl rfl rfl) rfl rfl <| lSkip (gd rfl rfl rfl rfl) rfl rfl <| lSkip (gd rfl rfl rfl rfl) rfl rfl <| lSkip (gd rfl rfl rfl rfl) rfl rfl <| R rfl (pkF rfl rfl) <| R rfl (mv rfl) <| lSkip (gd rfl rfl rfl rfl) rfl rfl <| lSkip (gd rfl rfl rfl rfl) rfl rfl <| R rfl (pkF rfl rfl) <| R rfl (mv rfl) <| lSkip (gd rfl rfl rfl rfl) rfl rfl <| lSkip (gd rfl rfl rfl rfl) rfl rfl <| lSkip (gd rfl rfl rfl rfl) rfl rfl <| R rfl (pkF rfl rfl) <| R rfl (asg rfl) <| gNil <| eMid (fun aa ww h => h.sub [44, 46, 48] (sS rfl <| sS rfl <| sS rfl <| sS rfl <| sS rfl <| sS rfl <| sS rfl <| sS rfl <| sN) (rR rfl rfl <| rR rfl rfl <| rR rfl rfl <| rN))
            · skip
              refine lKn 193 rfl h122 <| lKn 194 rfl h122 <| lSkip (gd rfl rfl rfl rfl) rfl rfl <| lSkip (gd rfl rfl rfl rfl) rfl rfl <| R rfl (pkF rfl rfl) <| R rfl (mv rfl) <| lSkip (gd rfl rfl rfl rfl) rfl rfl <| lSkip (gd rfl rfl rfl rfl) rfl rfl <| R rfl (pkF rfl rfl) <| R rfl (mv rfl) <| lSkip (gd rfl rfl rfl rfl) rfl rfl <| lSkip (gd rfl rfl rfl rfl) rfl rfl <| R rfl (pkF rfl rfl) <| R rfl (mv rfl) <| lSkip (gd rfl rfl rfl rfl) rfl rfl <| lSkip (gd rfl rfl rfl rfl) rfl rfl <| lSkip (gd rfl rfl rfl rfl) rfl rfl <| R rfl (pkF rfl rfl) <| R rfl (mv rfl) <| lSkip (gd rfl rfl rfl rfl) rfl rfl <| lSkip (gd rfl rfl rfl rfl) rfl rfl <| lSkip (gd rfl rfl rfl rfl) rfl rfl <| lSkip (gd rfl rfl rfl rfl) rfl rfl <| lSkip (gd rfl rfl rfl rfl) rfl rfl <| lSkip (gd rfl rfl rfl rfl) rfl rfl <| R rfl (pkF rfl rfl) <| R rfl (mv rfl) <| lSkip (gd rfl rfl rfl rfl) rfl rfl <| lSkip (gd rfl rfl rfl rfl) rfl rfl <| R rfl (pkF rfl rfl) <| R rfl (mv rfl) <| lSkip (gd rfl rfl rfl rfl) rfl rfl <| lSkip (gd rfl rfl rfl rfl) rfl rfl <| lSkip (gd rfl rfl rfl rfl) rfl rfl <| R rfl (pkF rfl rfl) <| R rfl (mv rfl) <| lSkip (gd rfl rfl rfl rfl) rfl rfl <| lSkip (gd rfl rfl rfl rfl) rfl rfl <| lSkip (gd rfl rfl rfl rfl) rfl rfl <| lSkip (gd rfl rfl rfl rfl) rfl rfl <| lSkip (gd rfl rfl rfl rfl) rfl rfl <| lSkip (gd rfl rfl rfl rfl) rfl rfl <| R rfl (pkF rfl rfl) <| R rfl (mv rfl) <| lSkip (gd rfl rfl rfl rfl) rfl rfl <| lSkip (gd rfl rfl rfl rfl) rfl rfl <| R rfl (pkF rfl rfl) <| R rfl (mv rfl) <| lSkip (gd rfl rfl rfl rfl) rfl rfl <| lSkip (gd rfl rfl rfl rfl) rfl rfl <| lSkip (gd rfl rfl rfl rfl) rfl rfl <| R rfl (pkF rfl rfl) <| R rfl (asg rfl) <| gNil <| eMid (fun aa ww h => h.sub [44, 46, 48] (sS rfl <| sS rfl <| sS rfl <| sS rfl <| sS rfl <| sS rfl <| sS rfl <| sS rfl <| sN) (rR rfl rfl <| rR rfl rfl <| rR rfl rfl <| rN))
          · skip
            refine lKn 189 rfl h121 <| lKn 190 rfl h121 <| lSkip (gd rfl rfl rfl rfl) rfl rfl <| lSkip (gd rfl rfl rfl rfl) rfl rfl <| R rfl (pkF rfl rfl) <| R rfl (mv rfl) <| lSkip (gd rfl rfl rfl rfl) rfl rfl <| lSkip (gd rfl rfl rfl rfl) rfl rfl <| R rfl (pkF rfl rfl) <| R rfl (mv rfl) <| lSkip (gd rfl rfl rfl rfl) rfl rfl <| lSkip (gd rfl rfl rfl rfl) rfl rfl <| R rfl (pkF rfl rfl) <| R rfl (mv rfl) <| lSkip (gd rfl rfl rfl rfl) rfl rfl <| lSkip (gd rfl rfl rfl rfl) rfl rfl <| R rfl (pkF rfl rfl) <| R rfl (mv rfl) <| lSkip (gd rfl rfl rfl rfl) rfl rfl <| lSkip (gd rfl rfl rfl rfl) rfl rfl <| lSkip (gd rfl rfl rfl rfl) rfl rfl <| R rfl (pkF rfl rfl) <| R rfl (mv rfl) <| lSkip (gd rfl rfl rfl rfl) rfl rfl <| lSkip (gd rfl rfl rfl rfl) rfl rfl <| lSkip (gd rfl rfl rfl rfl) rfl rfl <| lSkip (gd rfl rfl rfl rfl) rfl rfl <| lSkip (gd rfl rfl rfl rfl) rfl rfl <| lSkip (gd rfl rfl rfl rfl) rfl rfl <| R rfl (pkF rfl rfl) <| R rfl (mv rfl) <| lSkip (gd rfl rfl rfl rfl) rfl rfl <| lSkip (gd rfl rfl rfl rfl) rfl rfl <| R rfl (pkF rfl rfl) <| R rfl (mv rfl) <| lSkip (gd rfl rfl rfl rfl) rfl rfl <| lSkip (gd rfl rfl rfl rfl) rfl rfl <| lSkip (gd rfl rfl rfl rfl) rfl rfl <| R rfl (pkF rfl rfl) <| R rfl (mv rfl) <| lSkip (gd rfl rfl rfl rfl) rfl rfl <| lSkip (gd rfl rfl rfl rfl) rfl rfl <| lSkip (gd rfl rfl rfl rfl) rfl rfl <| lSkip (gd rfl rfl rfl rfl) rfl rfl <| lSkip (gd rfl rfl rfl rfl) rfl rfl <| lSkip (gd rfl rfl rfl rfl) rfl rfl <| R rfl (pkF rfl rfl) <| R rfl (mv rfl) <| lSkip (gd rfl rfl rfl rfl) rfl rfl <| lSkip (gd rfl rfl rfl rfl) rfl rfl <| R rfl (pkF rfl rfl) <| R rfl (mv rfl) <| lSkip (gd rfl rfl rfl rfl) rfl rfl <| lSkip (gd rfl rfl rfl rfl) rfl rfl <| lSkip (gd rfl rfl rfl rfl) rfl rfl <| R rfl (pkF rfl rfl) <| R rfl (asg rfl) <| gNil <| eMid (fun aa ww h => h.sub [44, 46, 48] (sS rfl <| sS rfl <| sS rfl <| sS rfl <| sS rfl <| sS rfl <| sS rfl <| sS rfl <| sN) (rR rfl rfl <| rR rfl rfl <| rR rfl rfl <| rN))
        · skip
          refine lKn 186 rfl h120 <| lSkip (gd rfl rfl rfl rfl) rfl rfl <| lSkip (gd rfl rfl rfl rfl) rfl rfl <| R rfl (pkF rfl rfl) <| R rfl (mv rfl) <| lSkip (gd rfl rfl rfl rfl) rfl rfl <| lSkip (gd rfl rfl rfl rfl) rfl rfl <| R rfl (pkF rfl rfl) <| R rfl (mv rfl) <| lSkip (gd rfl rfl rfl rfl) rfl rfl <| lSkip (gd rfl rfl rfl rfl) rfl rfl <| R rfl (pkF rfl rfl) <| R rfl (mv rfl) <| lSkip (gd rfl rfl rfl rfl) rfl rfl <| lSkip (gd rfl rfl rfl rfl) rfl rfl <| R rfl (pkF rfl rfl) <| R rfl (mv rfl) <| lSkip (gd rfl rfl rfl rfl) rfl rfl <| lSkip (gd rfl rfl rfl rfl) rfl rfl <| R rfl (pkF rfl rfl) <| R rfl (mv rfl) <| lSkip (gd rfl rfl rfl rfl) rfl rfl <| lSkip (gd rfl rfl rfl rfl) rfl rfl <| lSkip (gd rfl rfl rfl rfl) rfl rfl <| R rfl (pkF rfl rfl) <| R rfl (mv rfl) <| lSkip (gd rfl rfl rfl rfl) rfl rfl <| lSkip (gd rfl rfl rfl rfl) rfl rfl <| lSkip (gd rfl rfl rfl rfl) rfl rfl <| lSkip (gd rfl rfl rfl rfl) rfl rfl <| lSkip (gd rfl rfl rfl rfl) rfl rfl <| lSkip (gd rfl rfl rfl rfl) rfl rfl <| R rfl (pkF rfl rfl) <| R rfl (mv rfl) <| lSkip (gd rfl rfl rfl rfl) rfl rfl <| lSkip (gd rfl rfl rfl rfl) rfl rfl <| R rfl (pkF rfl rfl) <| R rfl (mv rfl) <| lSkip (gd rfl rfl rfl rfl) rfl rfl <| lSkip (gd rfl rfl rfl rfl) rfl rfl <| lSkip (gd rfl rfl rfl rfl) rfl rfl <| R rfl (pkF rfl rfl) <| R rfl (mv rfl) <| lSkip (gd rfl rfl rfl rfl) rfl rfl <| lSkip (gd rfl rfl rfl rfl) rfl rfl <| lSkip (gd rfl rfl rfl rfl) rfl rfl <| lSkip (gd rfl rfl rfl rfl) rfl rfl <| lSkip (gd rfl rfl rfl rfl) rfl rfl <| lSkip (gd rfl rfl rfl rfl) rfl rfl <| R rfl (pkF rfl rfl) <| R rfl (mv rfl) <| lSkip (gd rfl rfl rfl rfl) rfl rfl <| lSkip (gd rfl rfl rfl rfl) rfl rfl <| R rfl (pkF rfl rfl) <| R rfl (mv rfl) <| lSkip (gd rfl rfl rfl rfl) rfl rfl <| lSkip (gd rfl rfl rfl rfl) rfl rfl <| lSkip (gd rfl rfl rfl rfl) rfl rfl <| R rfl (pkF rfl rfl) <| R rfl (asg rfl) <| gNil <| eMid (fun aa ww h => h.sub [44, 46, 48] (sS rfl <| sS rfl <| sS rfl <| sS rfl <| sS rfl <| sS rfl <| sS rfl <| sS rfl <| sN) (rR rfl rfl <| rR rfl rfl <| rR rfl rfl <| rN))
      · skip
        refine gSeq <| gReg <| R rfl (mv rfl) <| lRun (gd rfl rfl rfl rfl) rfl rfl (mv rfl) <| lRun (gd rfl rfl rfl rfl) rfl rfl (I.eql rfl rfl) <| R rfl (pkT rfl rfl) <| R rfl (mv rfl) <| lSplit 250 rfl (fun h137 => ?_) (fun h137 => ?_)
        · skip
          refine lKn 248 rfl h137 <| lKn 249 rfl h137 <| lRun (gd rfl rfl rfl rfl) rfl rfl (mv rfl) <| lRun (gd rfl rfl rfl rfl) rfl rfl (len' rfl (.own 44 rfl) rfl Try.underlying32) <| lRun (gd rfl rfl rfl rfl) rfl rfl (I.eql rfl rfl) <| R rfl (pkT rfl rfl) <| R rfl (mv rfl) <| lSplit 255 rfl (fun h138 => ?_) (fun h138 => ?_)
          · skip
            refine lKn 253 rfl h138 <| lKn 254 rfl h138 <| lRun (gd rfl rfl rfl rfl) rfl rfl (mv rfl) <| lRun (gd rfl rfl rfl rfl) rfl rfl (I.eql rfl rfl) <| R rfl (pkT rfl rfl) <| R rfl (mv rfl) <| lSplit 259 rfl (fun h139 => ?_) (fun h139 => ?_)
            · skip
              refine lKn 257 rfl h139 <| lKn 258 rfl h139 <| lRun (gd rfl rfl rfl rfl) rfl rfl (mv rfl) <| lRun (gd rfl rfl rfl rfl) rfl rfl (len' rfl (.own 46 rfl) rfl Try.underlying32) <| lRun (gd rfl rfl rfl rfl) rfl rfl (I.eql rfl rfl) <| R rfl (pkT rfl rfl) <| R rfl (mv rfl) <| lSplit 264 rfl (fun h140 => ?_) (fun h140 => ?_)
              · skip
                refine lKn 262 rfl h140 <| lKn 263 rfl h140 <| lRun (gd rfl rfl rfl rfl) rfl rfl (mv rfl) <| lRun (gd rfl rfl rfl rfl) rfl rfl (I.eql rfl rfl) <| R rfl (pkT rfl rfl) <| R rfl (mv rfl) <| lSplit 268 rfl (fun h141 => ?_) (fun h141 => ?_)
                · skip
                  refine lKn 266 rfl h141 <| lKn 267 rfl h141 <| lRun (gd rfl rfl rfl rfl) rfl rfl (mv rfl) <| lRun (gd rfl rfl rfl rfl) rfl rfl (len' rfl (.own 48 rfl) rfl Try.underlying32) <| lRun (gd rfl rfl rfl rfl) rfl rfl (I.eql rfl rfl) <| R rfl (pkT rfl rfl) <| R rfl (mv rfl) <| lSplit 273 rfl (fun h142 => ?_) (fun h142 => ?_)
                  · skip
                    refine lKn 271 rfl h142 <| lKn 272 rfl h142 <| lRun (gd rfl rfl rfl rfl) rfl rfl (mv rfl) <| R rfl (pkT rfl rfl) <| R rfl (mv rfl) <| lSplit 276 rfl (fun h143 => ?_) (fun h143 => ?_)
                    · skip
                      refine lKn 31 rfl h143 <| lKn 274 rfl h143 <| lKn 275 rfl h143 <| lRun (gd rfl rfl rfl rfl) rfl rfl (mv rfl) <| R rfl (pkT rfl rfl) <| R rfl (mv rfl) <| lSplit 279 rfl (fun h144 => ?_) (fun h144 => ?_)
                      · skip
                        refine lKn 30 rfl h144 <| lKn 277 rfl h144 <| lKn 278 rfl h144 <| lRun (gd rfl rfl rfl rfl) rfl rfl (bld (x' := (⟨6, 0, [], []⟩ : api_Frame)) [(0, 1), (1, 1), (2, 1), (3, 1)] Try.underlying105 ti105 rfl zr105 rfl (Bld.cons (pt_api_Frame_Kind _) rfl rfl <| Bld.done rfl)) <| Efg (gd rfl rfl rfl rfl) rfl rfl (lit (R := u8R) ([6, 0] : List UInt8) 70 (pP rfl rfl <| pP rfl rfl <| pN) rfl Try.underlying32 ti5 rfl rfl) fun v145 => lFrz 70 [281] rfl (fS rfl <| fN) <| callg [] [] (gd rfl rfl rfl rfl) rfl Try.func96 rfl rfl (braidlaw07_is_ok _ _) (aQ rfl <| aQ rfl <| aN) rN fun r146 n147 => R rfl (pkT rfl rfl) <| R rfl (mv rfl) <| lSplit 284 rfl (fun h148 => ?_) (fun h148 => ?_)
                        · skip
                          refine lKn 282 rfl h148 <| lKn 283 rfl h148 <| callg [] [] (gd rfl rfl rfl rfl) rfl Try.func92 rfl rfl (braidlaw07_alive_ok) (aN) rN fun r149 n150 => R rfl (pkT rfl rfl) <| R rfl (asg rfl) <| gNil <| eThen <| gRet <| eRet [] [] rfl (eE rfl <| eN) (rN)
                        · skip
                          refine lKn 282 rfl h148 <| lKn 283 rfl h148 <| lSkip (gd rfl rfl rfl rfl) rfl rfl <| R rfl (pkF rfl rfl) <| R rfl (asg rfl) <| gNil <| eThen <| gRet <| eRet [] [] rfl (eE rfl <| eN) (rN)
                      · skip
                        refine lKn 30 rfl h144 <| lKn 277 rfl h144 <| lKn 278 rfl h144 <| lSkip (gd rfl rfl rfl rfl) rfl rfl <| lSkip (gd rfl rfl rfl rfl) rfl rfl <| lSkip (gd rfl rfl rfl rfl) rfl rfl <| R rfl (pkF rfl rfl) <| R rfl (mv rfl) <| lSkip (gd rfl rfl rfl rfl) rfl rfl <| R rfl (pkF rfl rfl) <| R rfl (asg rfl) <| gNil <| eThen <| gRet <| eRet [] [] rfl (eE rfl <| eN) (rN)
                    · skip
                      refine lKn 31 rfl h143 <| lKn 274 rfl h143 <| lKn 275 rfl h143 <| lSkip (gd rfl rfl rfl rfl) rfl rfl <| R rfl (pkF rfl rfl) <| R rfl (mv rfl) <| lSkip (gd rfl rfl rfl rfl) rfl rfl <| lSkip (gd rfl rfl rfl rfl) rfl rfl <| lSkip (gd rfl rfl rfl rfl) rfl rfl <| R rfl (pkF rfl rfl) <| R rfl (mv rfl) <| lSkip (gd rfl rfl rfl rfl) rfl rfl <| R rfl (pkF rfl rfl) <| R rfl (asg rfl) <| gNil <| eThen <| gRet <| eRet [] [] rfl (eE rfl <| eN) (rN)
                  · skip
                    refine lKn 271 rfl h142 <| lKn 272 rfl h142 <| lSkip (gd rfl rfl rfl rfl) rfl rfl <| R rfl (pkF rfl rfl) <| R rfl (mv rfl) <| lSkip (gd rfl rfl rfl rfl) rfl rfl <| R rfl (pkF rfl rfl) <| R rfl (mv rfl) <| lSkip (gd rfl rfl rfl rfl) rfl rfl <| lSkip (gd rfl rfl rfl rfl) rfl rfl <| lSkip (gd rfl rfl rfl rfl) rfl rfl <| R rfl (pkF rfl rfl) <| R rfl (mv rfl) <| lSkip (gd rfl rfl rfl rfl) rfl rfl <| R rfl (pkF rfl rfl) <| R rfl (asg rfl) <| gNil <| eThen <| gRet <| eRet [] [] rfl (eE rfl <| eN) (rN)
                · skip
                  refine lKn 266 rfl h141 <| lKn 267 rfl h141 <| lSkip (gd rfl rfl rfl rfl) rfl rfl <| lSkip (gd rfl rfl rfl rfl) rfl rfl <| lSkip (gd rfl rfl rfl rfl) rfl rfl <| R rfl (pkF rfl rfl) <| R rfl (mv rfl) <| lSkip (gd rfl rfl rfl rfl) rfl rfl <| R rfl (pkF rfl rfl) <| R rfl (mv rfl) <| lSkip (gd rfl rfl rfl rfl) rfl rfl <| R rfl (pkF rfl rfl) <| R rfl (mv rfl) <| lSkip (gd rfl rfl rfl rfl) rfl rfl <| lSkip (gd rfl rfl rfl rfl) rfl rfl <| lSkip (gd rfl rfl rfl rfl) rfl rfl <| R rfl (pkF rfl rfl) <| R rfl (mv rfl) <| lSkip (gd rfl rfl rfl rfl) rfl rfl <| R rfl (pkF rfl rfl) <| R rfl (asg rfl) <| gNil <| eThen <| gRet <| eRet [] [] rfl (eE rfl <| eN) (rN)
              · skip
                refine lKn 262 rfl h140 <| lKn 263 rfl h140 <| lSkip (gd rfl rfl rfl rfl) rfl rfl <| lSkip (gd rfl rfl rfl rfl) rfl rfl <| R rfl (pkF rfl rfl) <| R rfl (mv rfl) <| lSkip (gd rfl rfl rfl rfl) rfl rfl <| lSkip (gd rfl rfl rfl rfl) rfl rfl <| lSkip (gd rfl rfl rfl rfl) rfl rfl <| R rfl (pkF rfl rfl) <| R rfl (mv rfl) <| lSkip (gd rfl rfl rfl rfl) rfl rfl <| R rfl (pkF rfl rfl) <| R rfl (mv rfl) <| lSkip (gd rfl rfl rfl rfl) rfl rfl <| R rfl (pkF rfl rfl) <| R rfl (mv rfl) <| lSkip (gd rfl rfl rfl rfl) rfl rfl <| lSkip (gd rfl rfl rfl rfl) rfl rfl <| lSkip (gd rfl rfl rfl rfl) rfl rfl <| R rfl (pkF rfl rfl) <| R rfl (mv rfl) <| lSkip (gd rfl rfl rfl rfl) rfl rfl <| R rfl (pkF rfl rfl) <| R rfl (asg rfl) <| gNil <| eThen <| gRet <| eRet [] [] rfl (eE rfl <| eN) (rN)
            · skip
              refine lKn 257 rfl h139 <| lKn 258 rfl h139 <| lSkip (gd rfl rfl rfl rfl) rfl rfl <| lSkip (gd rfl rfl rfl rfl) rfl rfl <| lSkip (gd rfl rfl rfl rfl) rfl rfl <| R rfl (pkF rfl rfl) <| R rfl (mv rfl) <| lSkip (gd rfl rfl rfl rfl) rfl rfl <| lSkip (gd rfl rfl rfl rfl) rfl rfl <| R rfl (pkF rfl rfl) <| R rfl (mv rfl) <| lSkip (gd rfl rfl rfl rfl) rfl rfl <| lSkip (gd rfl rfl rfl rfl) rfl rfl <| lSkip (gd rfl rfl rfl rfl) rfl rfl <| R rfl (pkF rfl rfl) <| R rfl (mv rfl) <| lSkip (gd rfl rfl rfl rfl) rfl rfl <| R rfl (pkF rfl rfl) <| R rfl (mv rfl) <| lSkip (gd rfl rfl rfl rfl) rfl rfl <| R rfl (pkF rfl rfl) <| R rfl (mv rfl) <| lSkip (gd rfl rfl rfl rfl) rfl rfl <| lSkip (gd rfl rfl rfl rfl) rfl rfl <| lSkip (gd rfl rfl rfl rfl) rfl rfl <| R rfl (pkF rfl rfl) <| R rfl (mv rfl) <| lSkip (gd rfl rfl rfl rfl) rfl rfl <| R rfl (pkF rfl rfl) <| R rfl (asg rfl) <| gNil <| eThen <| gRet <| eRet [] [] rfl (eE rfl <| eN) (rN)
          · skip
            refine lKn 253 rfl h138 <| lKn 254 rfl h138 <| lSkip (gd rfl rfl rfl rfl) rfl rfl <| lSkip (gd rfl rfl rfl rfl) rfl rfl <| R rfl (pkF rfl rfl) <| R rfl (mv rfl) <| lSkip (gd rfl rfl rfl rfl) rfl rfl <| lSkip (gd rfl rfl rfl rfl) rfl rfl <| lSkip (gd rfl rfl rfl rfl) rfl rfl <| R rfl (pkF rfl rfl) <| R rfl (mv rfl) <| lSkip (gd rfl rfl rfl rfl) rfl rfl <| lSkip (gd rfl rfl rfl rfl) rfl rfl <| R rfl (pkF rfl rfl) <| R rfl (mv rfl) <| lSkip (gd rfl rfl rfl rfl) rfl rfl <| lSkip (gd rfl rfl rfl rfl) rfl rfl <| lSkip (gd rfl rfl rfl rfl) rfl rfl <| R rfl (pkF rfl rfl) <| R rfl (mv rfl) <| lSkip (gd rfl rfl rfl rfl) rfl rfl <| R rfl (pkF rfl rfl) <| R rfl (mv rfl) <| lSkip (gd rfl rfl rfl rfl) rfl rfl <| R rfl (pkF rfl rfl) <| R rfl (mv rfl) <| lSkip (gd rfl rfl rfl rfl) rfl rfl <| lSkip (gd rfl rfl rfl rfl) rfl rfl <| lSkip (gd rfl rfl rfl rfl) rfl rfl <| R rfl (pkF rfl rfl) <| R rfl (mv rfl) <| lSkip (gd rfl rfl rfl rfl) rfl rfl <| R rfl (pkF rfl rfl) <| R rfl (asg rfl) <| gNil <| eThen <| gRet <| eRet [] [] rfl (eE rfl <| eN) (rN)
        · skip
          refine lKn 248 rfl h137 <| lKn 249 rfl h137 <| lSkip (gd rfl rfl rfl rfl) rfl rfl <| lSkip (gd rfl rfl rfl rfl) rfl rfl <| lSkip (gd rfl rfl rfl rfl) rfl rfl <| R rfl (pkF rfl rfl) <| R rfl (mv rfl) <| lSkip (gd rfl rfl rfl rfl) rfl rfl <| lSkip (gd rfl rfl rfl rfl) rfl rfl <| R rfl (pkF rfl rfl) <| R rfl (mv rfl) <| lSkip (gd rfl rfl rfl rfl) rfl rfl <| lSkip (gd rfl rfl rfl rfl) rfl rfl <| lSkip (gd rfl rfl rfl rfl) rfl rfl <| R rfl (pkF rfl rfl) <| R rfl (mv rfl) <| lSkip (gd rfl rfl rfl rfl) rfl rfl <| lSkip (gd rfl rfl rfl rfl) rfl rfl <| R rfl (pkF rfl rfl) <| R rfl (mv rfl) <| lSkip (gd rfl rfl rfl rfl) rfl rfl <| lSkip (gd rfl rfl rfl rfl) rfl rfl <| lSkip (gd rfl rfl rfl rfl) rfl rfl <| R rfl (pkF rfl rfl) <| R rfl (mv rfl) <| lSkip (gd rfl rfl rfl rfl) rfl rfl <| R rfl (pkF rfl rfl) <| R rfl (mv rfl) <| lSkip (gd rfl rfl rfl rfl) rfl rfl <| R rfl (pkF rfl rfl) <| R rfl (mv rfl) <| lSkip (gd rfl rfl rfl rfl) rfl rfl <| lSkip (gd rfl rfl rfl rfl) rfl rfl <| lSkip (gd rfl rfl rfl rfl) rfl rfl <| R rfl (pkF rfl rfl) <| R rfl (mv rfl) <| lSkip (gd rfl rfl rfl rfl) rfl rfl <| R rfl (pkF rfl rfl) <| R rfl (asg rfl) <| gNil <| eThen <| gRet <| eRet [] [] rfl (eE rfl <| eN) (rN)
end Go.Proofs.Ytklfgpdfongaeaa
namespace Go.Proofs.Ytklfgpdfongaeaa
open Go Go.RowKit
set_option linter.unusedSimpArgs false
set_option linter.unusedVariables false
theorem fnames_L0 (Y : List api_Frame) (hl : Y.length ≤ 100) (h : ∀ f ∈ Y, okF f ∧ goodF f = false) : iter (braidlaw07_FrameNames_L0 Y) 0 = some (.inr ()) := by
  refine iter_run (F := braidlaw07_FrameNames_L0 Y) (b := .inr ()) Y.length (fun i => (i : Int)) (fun i hi => ?_) ?_
  · unfold braidlaw07_FrameNames_L0
    rw [if_pos (by simp only [decide_eq_true_eq]; omega)]
    obtain ⟨h1, h2⟩ := h Y[i] (List.getElem_mem _)
    simp only [idx_nat hi, bs]
    rw [encode_eq _ h1, fcheck_eq _ h1, h2]
    simp only [bs, Bool.false_eq_true, if_false]
    rw [if_neg (by decide), if_neg (by decide), w64_nat (by omega)]
  · unfold braidlaw07_FrameNames_L0
    rw [if_neg (by simp)]
@[irreducible] def z8 (n : Nat) : List UInt8 := List.replicate n 0
theorem z8_len (n : Nat) : (z8 n).length = n := by unfold z8; simp
theorem nb400 : numBytes 400 = [249, 1, 144] := by simp [numBytes, digits]
theorem nb383 : numBytes 383 = [249, 1, 127] := by simp [numBytes, digits]
theorem nb384 : numBytes 384 = [249, 1, 128] := by simp [numBytes, digits]
theorem nb5_ : numBytes 5 = [5] := by simp [numBytes]
theorem nb8_ : numBytes 8 = [8] := by simp [numBytes]
theorem nb40_ : numBytes 40 = [40] := by simp [numBytes]
theorem opsl_len (b : List UInt8) (l : List (List UInt8)) : (opsL (b :: l)).length = (numBytes b.length).length + b.length + (opsL l).length := by rw [opsL_cons]; simp; omega
theorem opsl_nil : (opsL []).length = 0 := rfl
theorem five_len (n : Nat) (h : (numBytes n).length = 3) : (opsL [z8 400, z8 400, z8 400, z8 400, z8 n]).length = 1615 + n := by
  simp only [opsl_len, opsl_nil, z8_len, nb400, h, List.length_cons, List.length_nil]
  omega
theorem five_good : goodF ⟨5, 0, [], [z8 400, z8 400, z8 400, z8 400, z8 383]⟩ = true := by
  rw [goodF_5 rfl]
  have hs : ∀ n, n ≤ 400 → short (z8 n) = true := fun n hn => by unfold short; rw [z8_len]; simp; omega
  simp only [Bool.and_eq_true, decide_eq_true_eq]
  refine ⟨⟨⟨⟨trivial, trivial⟩, by simp⟩, by simp [hs]⟩, ?_⟩
  show 1 + (numBytes 5).length + (opsL [z8 400, z8 400, z8 400, z8 400, z8 383]).length ≤ 2000
  rw [five_len 383 (by rw [nb383]; rfl), nb5_]
  simp
theorem five_bad : goodF ⟨5, 0, [], [z8 400, z8 400, z8 400, z8 400, z8 384]⟩ = false := by
  refine Bool.eq_false_iff.2 fun h => ?_
  rw [goodF_5 rfl] at h
  simp only [Bool.and_eq_true, decide_eq_true_eq] at h
  have h2 : 1 + (numBytes 5).length + (opsL [z8 400, z8 400, z8 400, z8 400, z8 384]).length ≤ 2000 := h.2
  rw [five_len 384 (by rw [nb384]; rfl), nb5_] at h2
  simp at h2
theorem five_enc : (encF ⟨5, 0, [], [z8 400, z8 400, z8 400, z8 400, z8 383]⟩).length = 2000 := by
  rw [encF_5 rfl]
  simp only [List.length_cons, List.length_append]
  rw [five_len 383 (by rw [nb383]; rfl)]
  simp only [List.length_nil]
  rw [show 0 + 1 + 1 + 1 + 1 + 1 = 5 from rfl, nb5_]
  rfl
theorem inc40 : incr (ris 40) = true := by decide +kernel
theorem inc60 : incr (ris 60) = true := by decide +kernel
theorem four_good : goodF ⟨4, 0, ris 40, []⟩ = true := by
  rw [goodF_l (.inr (.inr rfl))]
  simp [ris_len, inc40]
theorem four_enc : (encF ⟨4, 0, ris 40, []⟩).length = 1282 := by
  rw [encF_l (.inr (.inr rfl))]
  simp [ris_len, idsL_len, nb40_]
theorem eight_good : goodF ⟨5, 0, [], List.replicate 8 []⟩ = true := by
  rw [goodF_5 rfl]
  simp only [List.length_replicate, nb8_]
  show (decide _ && decide _ && decide _ && (List.replicate 8 ([] : List UInt8)).all short && decide (1 + 1 + (opsL [[], [], [], [], [], [], [], []]).length ≤ 2000)) = true
  simp only [opsl_len, opsl_nil, List.length_nil, nb_0, List.length_cons]
  simp [short]
theorem eight_enc : (encF ⟨5, 0, [], List.replicate 8 []⟩).length = 10 := by
  rw [encF_5 rfl]
  simp only [List.length_replicate, nb8_, List.length_cons, List.length_append]
  show 0 + 1 + (opsL [[], [], [], [], [], [], [], []]).length + 1 = 10
  simp only [opsl_len, opsl_nil, List.length_nil, nb_0, List.length_cons]
theorem r_1 : parseF [0, 0] = none := by
  have h1 : rawF 0 [0] = some ⟨0, 0, [], []⟩ := by decide +kernel
  have h2 : goodF ⟨0, 0, [], []⟩ = false := by decide +kernel
  unfold parseF; simp only [h1, h2]; simp
theorem r_2 : parseF [1, 248, 1] = none := by
  have h1 : rawF 1 [248, 1] = none := by decide +kernel
  unfold parseF; simp only [h1]
theorem g_1 : goodF ⟨1, 1, [], []⟩ = true := by decide +kernel
theorem e_1 : encF ⟨1, 1, [], []⟩ = [1, 1] := by rw [encF_n (.inl rfl)]; show (1 : UInt8) :: numBytes 1 = _; simp [numBytes]
theorem r_3 : parseF [1, 1, 1] = none := by
  have := parse_more ⟨1, 1, [], []⟩ g_1 [1] (by simp) (by rw [e_1]; simp)
  rwa [e_1] at this
theorem r_4 : parseF [3, 1] = none := by
  have h1 : rawF 3 [1] = none := by decide +kernel
  unfold parseF; simp only [h1]
theorem r_5 : parseF [5, 9] = none := by
  have h1 : rawF 5 [9] = none := by decide +kernel
  unfold parseF; simp only [h1]
theorem r_6 : parseF [5, 1, 1] = none := by
  have h1 : rawF 5 [1, 1] = none := by decide +kernel
  unfold parseF; simp only [h1]
theorem r_7 : parseF [5, 1, 249, 1, 145] = none := by
  have h1 : rawF 5 [1, 249, 1, 145] = none := by decide +kernel
  unfold parseF; simp only [h1]
theorem g_6 : goodF ⟨6, 0, [], []⟩ = true := by decide +kernel
theorem e_6 : encF ⟨6, 0, [], []⟩ = [6, 0] := by rw [encF_n (.inr rfl)]; show (6 : UInt8) :: numBytes 0 = _; rw [nb_0]
theorem r_8 : parseF [6, 0, 0] = none := by
  have := parse_more ⟨6, 0, [], []⟩ g_6 [0] (by simp) (by rw [e_6]; simp)
  rwa [e_6] at this
abbrev zz : Vector UInt8 32 := Vector.replicate 32 0
def bads : List api_Frame := [⟨0, 0, [], []⟩, ⟨7, 0, [], []⟩, ⟨1, 0, ris 1, []⟩, ⟨6, 0, [], [[]]⟩, ⟨2, 1, [], []⟩, ⟨3, 0, [], [[]]⟩, ⟨4, 0, ris 41, []⟩, ⟨2, 0, [zz, zz], []⟩, ⟨2, 0, [vset zz ((0 : Nat) : Int) 2, vset zz ((0 : Nat) : Int) 1], []⟩, ⟨5, 1, [], []⟩, ⟨5, 0, ris 1, []⟩, ⟨5, 0, [], List.replicate 9 []⟩, ⟨5, 0, [], [z8 401]⟩, ⟨5, 0, [], [z8 400, z8 400, z8 400, z8 400, z8 384]⟩]
theorem bads_ok : ∀ f ∈ bads, okF f ∧ goodF f = false := by
  intro f hf
  unfold bads at hf
  simp only [List.mem_cons, List.not_mem_nil, or_false] at hf
  rcases hf with e | e | e | e | e | e | e | e | e | e | e | e | e | e <;> subst e
  · exact ⟨⟨by simp, by simp, by simp⟩, by decide +kernel⟩
  · exact ⟨⟨by simp, by simp, by simp⟩, by decide +kernel⟩
  · exact ⟨⟨by simp [ris_len], by simp, by simp⟩, by decide +kernel⟩
  · exact ⟨⟨by simp, by simp, by simp⟩, by decide +kernel⟩
  · exact ⟨⟨by simp, by simp, by simp⟩, by decide +kernel⟩
  · exact ⟨⟨by simp, by simp, by simp⟩, by decide +kernel⟩
  · exact ⟨⟨by simp [ris_len], by simp, by simp⟩, by decide +kernel⟩
  · exact ⟨⟨by simp, by simp, by simp⟩, by decide +kernel⟩
  · exact ⟨⟨by simp, by simp, by simp⟩, by decide +kernel⟩
  · exact ⟨⟨by simp, by simp, by simp⟩, by decide +kernel⟩
  · exact ⟨⟨by simp [ris_len], by simp, by simp⟩, by decide +kernel⟩
  · exact ⟨⟨by simp, by simp, by intro b hb; simp at hb; simp [hb]⟩, by decide +kernel⟩
  · exact ⟨⟨by simp, by simp, by simp [z8_len]⟩, by decide +kernel⟩
  · exact ⟨⟨by simp, by simp, by simp [z8_len]⟩, five_bad⟩
theorem mk8 (n : Nat) (h : n ≤ 1000) : mkn 1 (0 : UInt8) (n : Int) = some (z8 n) := by unfold z8; exact mkn_eq (by omega) (by omega)
theorem inc00 : incr [zz, zz] = false := by decide +kernel
theorem split_bad (l : ids) (k : UInt8) (hk : ¬ (k = 2 ∨ k = 3 ∨ k = 4)) : splitF l k = ([], 2) := by unfold splitF; rw [if_pos hk]
theorem split_many (l : ids) (k : UInt8) (hk : k = 2 ∨ k = 3 ∨ k = 4) (h : 60 < l.length) : splitF l k = ([], 4) := by unfold splitF; rw [if_neg (not_not_intro hk), if_pos h]
theorem split_un (l : ids) (k : UInt8) (hk : k = 2 ∨ k = 3 ∨ k = 4) (h : l.length ≤ 60) (hi : incr l = false) : splitF l k = ([], 32) := by unfold splitF; rw [if_neg (not_not_intro hk), if_neg (by omega), if_pos hi]
theorem split_one (l : ids) (k : UInt8) (hk : k = 2 ∨ k = 3 ∨ k = 4) (h : l.length ≤ 40) (hi : incr l = true) : splitF l k = ([⟨k, 0, l, []⟩], 0) := by
  unfold splitF splitL; rw [if_neg (not_not_intro hk), if_neg (by omega), if_neg (by rw [hi]; simp), if_neg (by omega), List.take_of_length_le h]
theorem split_two (l : ids) (k : UInt8) (hk : k = 2 ∨ k = 3 ∨ k = 4) (h : 40 < l.length) (h2 : l.length ≤ 60) (hi : incr l = true) : splitF l k = ([⟨k, 0, l.take 40, []⟩, ⟨k, 0, l.drop 40, []⟩], 0) := by
  unfold splitF splitL; rw [if_neg (not_not_intro hk), if_neg (by omega), if_neg (by rw [hi]; simp), if_pos h]
theorem names7 : braidlaw07_FrameNames = some true := by
  unfold braidlaw07_FrameNames
  have ok5 : ∀ n, n ≤ 3000 → okF ⟨5, 0, [], [z8 400, z8 400, z8 400, z8 400, z8 n]⟩ := fun n hn => ⟨by simp, by simp, by simp [z8_len]; omega⟩
  rw [show mkn 1 (0 : UInt8) 400 = some (z8 400) from mk8 400 (by omega), show mkn 1 (0 : UInt8) 383 = some (z8 383) from mk8 383 (by omega), show mkn 1 (0 : UInt8) 384 = some (z8 384) from mk8 384 (by omega), show mkn 1 (0 : UInt8) 401 = some (z8 401) from mk8 401 (by omega)]
  rw [show mkn 24 ([] : List UInt8) 1 = some [[]] from mkn_eq (n := 1) (by omega) (by omega), show mkn 24 ([] : List UInt8) 9 = some (List.replicate 9 []) from mkn_eq (n := 9) (by omega) (by omega), show mkn 24 ([] : List UInt8) 8 = some (List.replicate 8 []) from mkn_eq (n := 8) (by omega) (by omega), show mkn 32 (Vector.replicate 32 (0 : UInt8)) 2 = some [zz, zz] from mkn_eq (n := 2) (by omega) (by omega)]
  rw [show braidlaw07_rising 1 = some (ris 1) from rising7 1 (by omega), show braidlaw07_rising 41 = some (ris 41) from rising7 41 (by omega), show braidlaw07_rising 40 = some (ris 40) from rising7 40 (by omega), show braidlaw07_rising 60 = some (ris 60) from rising7 60 (by omega), show braidlaw07_rising 61 = some (ris 61) from rising7 61 (by omega)]
  simp only [bs]
  rw [show iter (braidlaw07_FrameNames_L0 [(⟨0, 0, [], []⟩ : api_Frame), ⟨7, 0, [], []⟩, ⟨1, 0, ris 1, []⟩, ⟨6, 0, [], [[]]⟩, ⟨2, 1, [], []⟩, ⟨3, 0, [], [[]]⟩, ⟨4, 0, ris 41, []⟩, ⟨2, 0, [zz, zz], []⟩, ⟨2, 0, [vset zz ((0 : Nat) : Int) 2, vset zz ((0 : Nat) : Int) 1], []⟩, ⟨5, 1, [], []⟩, ⟨5, 0, ris 1, []⟩, ⟨5, 0, [], List.replicate 9 []⟩, ⟨5, 0, [], [z8 401]⟩, ⟨5, 0, [], [z8 400, z8 400, z8 400, z8 400, z8 384]⟩]) 0 = some (.inr ()) from fnames_L0 bads (by simp [bads]) bads_ok]
  rw [or_r, encode_eq _ (ok5 383 (by omega)), five_good, encode_eq ⟨4, 0, ris 40, []⟩ ⟨by simp [ris_len], by simp, by simp⟩, four_good, encode_eq ⟨5, 0, [], List.replicate 8 []⟩ ⟨by simp, by simp, by intro b hb; simp at hb; simp [hb]⟩, eight_good]
  simp only [bs, if_true]
  rw [split_eq [] 1 (by simp), split_eq [] 5 (by simp), split_eq (ris 61) 2 (by rw [ris_len]; omega), split_eq [zz, zz] 2 (by simp), split_eq (ris 61) 7 (by rw [ris_len]; omega), split_eq [] 4 (by simp), split_eq (ris 60) 3 (by rw [ris_len]; omega), split_eq (ris 40) 2 (by rw [ris_len]; omega)]
  rw [split_bad [] 1 (by decide), split_bad [] 5 (by decide), split_many (ris 61) 2 (.inl rfl) (by rw [ris_len]; omega), split_un [zz, zz] 2 (.inl rfl) (by simp) inc00, split_bad (ris 61) 7 (by decide), split_one [] 4 (.inr (.inr rfl)) (by simp) rfl, split_two (ris 60) 3 (.inr (.inl rfl)) (by rw [ris_len]; omega) (by rw [ris_len]; omega) inc60, split_one (ris 40) 2 (.inl rfl) (by rw [ris_len]; omega) inc40]
  simp only [bs]
  rw [refused7 [] (by simp) rfl, refused7 _ (by simp) r_1, refused7 _ (by simp) r_2, refused7 _ (by simp) r_3, refused7 _ (by simp) r_4, refused7 _ (by simp) r_5, refused7 _ (by simp) r_6, refused7 _ (by simp) r_7, refused7 _ (by simp) r_8]
  simp only [bs, if_true]
  rw [show (0 : Int) = ((0 : Nat) : Int) from rfl, show idx [(⟨4, 0, [], []⟩ : api_Frame)] ((0 : Nat) : Int) = some ⟨4, 0, [], []⟩ from idx_nat (by simp), show (1 : Int) = ((1 : Nat) : Int) from rfl, show idx [(⟨3, 0, (ris 60).take 40, []⟩ : api_Frame), ⟨3, 0, (ris 60).drop 40, []⟩] ((1 : Nat) : Int) = some ⟨3, 0, (ris 60).drop 40, []⟩ from idx_nat (by simp)]
  simp only [bs]
  rw [five_enc, four_enc, eight_enc, is_law ⟨6, 0, [], []⟩ _ (ok_small _ _) g_6 e_6, alive7]
  simp [bs, ris_len]
end Go.Proofs.Ytklfgpdfongaeaa
