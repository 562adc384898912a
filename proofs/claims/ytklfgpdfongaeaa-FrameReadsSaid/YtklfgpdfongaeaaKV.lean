/- Parts of a slice of the call's own, lent for reading. Over any program. -/
import Derived.Test.YtklfgpdfongaeaaKJ
namespace Go.Proofs.Ytklfgpdfongaeaa
open Go Go.RowKit
set_option linter.unusedSimpArgs false
set_option linter.unusedVariables false
section
variable {α : Type} {C : World → World → Prop} {P : Program} {Γ : Ctx} {l : Slots} {res : Res} {d : Tmp} {ty : TypeId} {pos : String} {after : Array Edge} {g : Option (Nat × Bool)} {R : Rep α}
/-- an entry that is a part, or the whole, of v -/
def VwE (R : Rep α) (v : Value) (L x : List α) (E : Ent) : Prop := ∀ S w u, E.holds S w u → (Ent.vw R v L x).holds S w u
theorem vwI {v : Value} {L x : List α} : VwE R v L x (.vw R v L x) := fun _ _ _ h => h
theorem vwW {v : Value} {L : List α} : VwE R v L L (.val v) := fun _ _ _ h => .inl ⟨h.1, rfl, by rw [h.1]; exact h.2⟩
theorem flat_vw {v : Value} {L x : List α} : (Ent.vw R v L x).flat := fun _ _ _ _ _ h => h
theorem flat_vp {v : Value} {L : List α} {y : α} : (Ent.vp R v L y).flat := fun _ _ _ _ _ h => h
theorem aW {os : List Operand} {ps : List Ent} {o : Operand} {v : Value} {L : List α} (h : opE l o = some (.val v)) (k : ArgsQ l os ps) : ArgsQ l (o :: os) (.vw R v L L :: ps) := ⟨⟨_, h, vwW⟩, k⟩
/-- what such a value looks like -/
theorem vw_form {S : Blk} {w : World} {u v : Value} {T : TypeId} {L x : List α} (h : (Ent.vw R v L x).holds S w u) (hc : (Cont.list R T L).holds S w v) :
    (u = .slice none 0 0 ∧ x = []) ∨ ∃ k o sp cap i, u = .slice (some ⟨k, o, sp⟩) x.length cap ∧ rblk v = some k ∧ x.length ≤ cap ∧ cap ≤ maxLen ∧ (x ≠ [] → sp = none ∧ o = i * R.sz) ∧ (L.drop i).take x.length = x := by
  rcases h with ⟨rfl, rfl, -⟩ | h | h
  · rcases hc with ⟨rfl, rfl⟩ | ⟨b', ob, g1, g2, bb, cp, Cc, rfl, rfl, g3, g4, g5, g6⟩
    · exact .inl ⟨rfl, rfl⟩
    · exact .inr ⟨bb, 0, none, cp, 0, rfl, rfl, g3, g4, fun _ => ⟨rfl, by simp⟩, by simp⟩
  · exact .inl h
  · exact .inr h
theorem cutQ {b b' L : List α} {x : Operand} {lo hi : Option Operand} {i j : Int} {T e E : TypeId} {z v : Value} {by_ : Nat} {En : Ent} (r : Nat) (hx : opE l x = some En) (hv : VwE R v L b En) (hr : lr res r = some (v, .list R E L)) (hlo : Bnd l 0 lo i) (hhi : Bnd l (b.length : Int) hi j) (hb : cut b i j = some b')
    (hT : P.underlying T = some (.slice e)) (hE : TI P e z R.sz by_) : Run C P Γ l res ⟨some d, .slice T x lo hi none, ty, pos, after, g⟩ (.vw R v L b') := fun a w ha => by
  obtain ⟨h1, h2, h3, rfl⟩ := cut_some hb
  have hlen : ((b.drop i.toNat).take (j.toNat - i.toNat)).length = j.toNat - i.toNat := by simp; omega
  rcases vw_form (hv _ _ _ (ha.vl hx)) (ha.conts r v _ hr) with ⟨k5, rfl⟩ | ⟨k, o, sp, cap, n, k5, q1, q2, q3, q4, q5⟩
  · simp only [List.length_nil] at h3
    have hi0 : i = 0 := by omega
    have hj0 : j = 0 := by simp at h3; omega
    subst hi0 hj0
    refine ⟨.slice none 0 0, fun w' _ => ?_, .inr (.inl ⟨rfl, by simp⟩)⟩
    have hb := bounds_run (P := P) (isS := true) (n := 0) (cp := 0) hlo hhi ha h1 h2 (by simp) (Nat.le_refl _) w'
    simp only [execOp, Instr.sliceAt, k5, Sem.run_bind, run_underlying hT, Result.andThen, Instr.slice, hb, run_sizeOf hE, Sem.run_pure, Option.map_none]
    rfl
  · have hbr := fun w' => bounds_run (P := P) (isS := true) hlo hhi ha h1 h2 h3 q2 w'
    refine ⟨.slice (if cap = i.toNat then some ⟨k, o, sp⟩ else (some ⟨k, o, sp⟩ : Option Addr).map (·.add (i.toNat * R.sz))) ((b.drop i.toNat).take (j.toNat - i.toNat)).length (cap - i.toNat), fun w' _ => ?_, .inr (.inr ?_)⟩
    · rw [hlen]
      simp only [execOp, Instr.sliceAt, k5, Sem.run_bind, run_underlying hT, Result.andThen, Instr.slice, hbr w', run_sizeOf hE, Sem.run_pure, Option.map_none]
    · by_cases hc : cap = i.toNat
      · rw [if_pos hc]
        have h0 : (b.drop i.toNat).take (j.toNat - i.toNat) = [] := List.eq_nil_of_length_eq_zero (by rw [hlen]; omega)
        rw [h0]
        exact ⟨k, o, sp, _, 0, rfl, q1, by simp, by omega, fun h => absurd rfl h, by simp⟩
      · rw [if_neg hc]
        by_cases h0 : (b.drop i.toNat).take (j.toNat - i.toNat) = []
        · rw [h0]
          refine ⟨k, ((⟨k, o, sp⟩ : Addr).add (i.toNat * R.sz)).off, ((⟨k, o, sp⟩ : Addr).add (i.toNat * R.sz)).spot, cap - i.toNat, 0, ?_, q1, by simp, by omega, fun h => absurd rfl h, by simp⟩
          simp only [Option.map_some, List.length_nil]
          unfold Addr.add
          by_cases hz : i.toNat * R.sz = 0 <;> simp [hz]
        · have hbn : b ≠ [] := fun e => h0 (by rw [e]; simp)
          obtain ⟨rfl, rfl⟩ := q4 hbn
          refine ⟨k, n * R.sz + i.toNat * R.sz, none, cap - i.toNat, n + i.toNat, ?_, q1, by rw [hlen]; omega, by omega, fun _ => ⟨rfl, by rw [Nat.add_mul]⟩, ?_⟩
          · simp only [Option.map_some]; rw [add_none]
          · rw [hlen]
            have e1 : L.drop (n + i.toNat) = (L.drop n).drop i.toNat := by rw [List.drop_drop]
            have e2 : ((L.drop n).drop i.toNat).take (j.toNat - i.toNat) = (((L.drop n).take b.length).drop i.toNat).take (j.toNat - i.toNat) := by
              rw [List.drop_take, List.take_take, Nat.min_eq_left (by omega)]
            rw [e1, e2, q5]
theorem ixQ {β : Type} {b L : List α} {y : α} {k : IntKind} {f : β → Int} {j : β} {x z' : Operand} {T e E : TypeId} {z v : Value} {by_ : Nat} (r : Nat) (hx : opE l x = some (.vw R v L b)) (hr : lr res r = some (v, .list R E L)) (hj : opE l z' = some (.rd (numR k f) j)) (hy : idx b (f j) = some y) (hT : P.underlying T = some (.slice e)) (hE : TI P e z R.sz by_) :
    Run C P Γ l res ⟨some d, .indexAddr T x z', ty, pos, after, g⟩ (.vp R v L y) := fun a w ha => by
  obtain ⟨k1, k2, k3⟩ := idx_some hy
  have hj' : a.eval z' = .int k ((f j).toNat : Int) := by rw [rd_num (ha.vl hj)]; congr 1; omega
  rcases vw_form (ha.vl hx) (ha.conts r v _ hr) with ⟨k5, rfl⟩ | ⟨bk, o, sp, cap, n, h5, q1, q2, q3, q4, q5⟩
  · simp at k3
  · have hne : b ≠ [] := fun e => by rw [e] at k3; simp at k3
    obtain ⟨rfl, rfl⟩ := q4 hne
    refine ⟨.pointer (some ⟨bk, n * R.sz + (f j).toNat * R.sz, none⟩), fun w' _ => ?_, bk, n + (f j).toNat, by rw [Nat.add_mul], q1, ?_⟩
    · generalize (f j).toNat = jn at *
      simp [execOp, h5, hj', Instr.indexAt, asIntOf, run_underlying hT, k3, run_sizeOf hE, add_none]
    · rw [← q5, List.getElem?_take, if_pos k3, List.getElem?_drop] at k2
      exact k2
theorem ldQ {ws : List Nat} [LC C res ws] {L : List α} {y : α} {t E : TypeId} {x : Operand} {v : Value} (r : Nat) (hx : opE l x = some (.vp R v L y)) (hr : lr res r = some (v, .list R E L)) (hT : TyIs P t R.agg R.sz) (hw : ws.contains r = false) :
    Run C P Γ l res ⟨some d, .load t x, ty, pos, after, g⟩ (.rd R y) := fun a w ha => by
  obtain ⟨k, n, h1, hk, hy⟩ := ha.vl hx
  have hidx : idx L (n : Int) = some y := by unfold idx; rw [if_pos (by omega)]; simpa using hy
  have hf : Foc (.list R E L) (n * R.sz) R y (fun y => .list R E (L.set n y)) := by
    have := Foc.el (R := R) (T := E) hidx
    simpa using this
  rcases ha.conts r v _ hr with ⟨q1, -⟩ | ⟨b, o, h2, h3, h4⟩
  · rw [q1] at hk; cases hk
  · obtain ⟨b', Cc, T, a', cs, dd, k1, rfl, k3, k4, k5, -⟩ := hf.2 _ w v o h4
    have e : b = b' := by have := base_rblk k1; rw [h2] at this; cases this; rfl
    subst e
    have hk : some b = some k := by rw [← h2, hk]
    cases hk
    refine ⟨R.val cs, fun w' hw' => ?_, cs, k5, rfl⟩
    have hb' : w'.heap[k]? = some (.cells Cc T (0, 0)) := (CW.at hw' ha hr h2 hw).trans h3
    have := Bx.load (P := P) hb' k3 (R.mono (CW.stay hw') k5) hT
    rw [k4] at this
    simp [execOp, h1, Instr.loadAt, Instr.sureAddr, this]
/-- bytes of a part as a string -/
theorem cvBQ {ws : List Nat} [LC C res ws] {b L : List UInt8} {x : Operand} {S D e E : TypeId} {v : Value} {En : Ent} (r : Nat) (hx : opE l x = some En) (hv : VwE u8R v L b En) (hr : lr res r = some (v, .list u8R E L)) (hS : P.underlying S = some (.slice e)) (he : P.underlying e = some (.int .u8)) (hD : P.underlying D = some .string) (hw : ws.contains r = false) :
    Run C P Γ l res ⟨some d, .convert S D x, ty, pos, after, g⟩ (.rd strR b) := fun a w ha => by
  have hvw := hv _ _ _ (ha.vl hx)
  obtain ⟨p, c, xs, k5, k2, k3⟩ := (Vw.vw (x := b) r hr).get ha hvw
  have hown : ∀ k, rblk (a.eval x) = some k → rblk v = some k := fun k hk => by
    rcases vw_form hvw (ha.conts r v _ hr) with ⟨q1, -⟩ | ⟨bk, o, sp, cap, n, q1, q2, -⟩
    · rw [q1] at hk; cases hk
    · rw [q1] at hk; simp only [rblk, Option.some.injEq] at hk; rw [← hk]; exact q2
  rw [k5] at hown
  have hxs := relL_u8 k3
  refine ⟨.string (strOfNums (b.map fun c => (c.toNat : Int))), fun w' hw' => ?_, _, ⟨_, rfl, ?_⟩, rfl⟩
  · have : (convert S D (.slice p b.length c)).run P w' = .ok (.string (strOfNums (b.map fun c => (c.toNat : Int)))) w' := by
      rcases k2.2 with ⟨hv, h0⟩ | ⟨b', o, sp, cap, hv, g1, g2, g4, g3⟩
      · simp only [Value.slice.injEq] at hv
        obtain ⟨rfl, _, rfl⟩ := hv
        have : b = [] := List.length_eq_zero_iff.1 h0
        subst this
        exact run_convert_bytes_nil w' S e hS he _ _ D hD
      · simp only [Value.slice.injEq, true_and] at hv
        obtain ⟨rfl, rfl⟩ := hv
        by_cases hb : b = []
        · subst hb
          have h1 := run_convert_bytes_string (P := P) w' S D e (some ⟨b', o, sp⟩) 0 c hS he hD
          have h2 := run_bytesToString (P := P) w' ⟨b', o, sp⟩ 0 c [] rfl
          rw [List.length_nil, h1, h2]; rfl
        · have hne : xs ≠ [] := by rw [hxs]; simpa using hb
          obtain rfl := g4.resolve_left hne
          refine run_convert_bytes_arg w' S e hS he b' o _ _ _ (by simp) (fun i hi => ?_) D hD
          have hc : xs[i]? = some (.int .u8 ((b.map fun c => (c.toNat : Int)).getD i 0)) := by rw [hxs]; simp [hi]
          have := g3 i _ hc
          unfold World.cell? at this ⊢
          rw [CW.at hw' ha hr (hown b' rfl) hw]; exact this
    simp [execOp, k5, this]
  · rw [strOfNums_data, List.map_map]
    have : ((fun n : Int => UInt8.ofNat n.toNat) ∘ fun c : UInt8 => (c.toNat : Int)) = id := by funext c; simp
    rw [this, List.map_id]
end
/-- a slice of the call's own whose block may be marked: it is only read -/
def Cont.flist {α : Type} (R : Rep α) (T : TypeId) (l : List α) : Cont where
  nil _ _ _ := False
  nilm _ h := h
  nilb h := h.elim
  rel S w v o := ∃ b cap C fr, v = .slice (some ⟨b, 0, none⟩) l.length cap ∧ o = .cells C T fr ∧ l.length ≤ cap ∧ cap ≤ maxLen ∧ relL R S w (C.toList.take (l.length * R.sz)) l
  mono k h := by obtain ⟨b, cap, C, fr, h1, h2, h3, h4, h5⟩ := h; exact ⟨b, cap, C, fr, h1, h2, h3, h4, h5.mono k⟩
section
variable {ρ α : Type} {P : Program} {Γ : Ctx} {l : Slots} {res : Res} {m : Option ρ} {os rest : List Oper} {N Q : ρ → Exit → Act → World → Prop} {c : Code} {e : Exit}
/-- no slice, as a part -/
theorem Sta.vwN {a : Act} {w : World} (ha : Sta Γ l res a w) (R : Rep α) (v : Value) (L : List α) (t : Nat) (ht : lk l t = some (.val (.slice none 0 0))) : Sta Γ ((t, .vw R v L []) :: l) res a w := by
  refine { ha with slots := fun t' e' ht' => ?_ }
  rw [lk_cons] at ht'
  split at ht'
  · rename_i hh; subst hh; cases ht'
    obtain ⟨u, h1, rfl, -⟩ := ha.slots t _ ht
    exact ⟨_, h1, .inr (.inl ⟨rfl, rfl⟩)⟩
  · exact ha.slots t' e' ht'
theorem eVwN (R : Rep α) (v : Value) (L : List α) (t : Nat) (ht : lk l t = some (.val (.slice none 0 0))) (k : GE (Sta Γ ((t, .vw R v L []) :: l) res) e Q m) : GE (Sta Γ l res) e Q m := fun a w ha => k a w (ha.vwN R v L t ht)
theorem gVwN (R : Rep α) (v : Value) (L : List α) (t : Nat) (ht : lk l t = some (.val (.slice none 0 0))) (k : G P (Sta Γ ((t, .vw R v L []) :: l) res) c Q m) : G P (Sta Γ l res) c Q m := fun a w ha => k a w (ha.vwN R v L t ht)
/-- the whole, as a part -/
theorem Sta.vwO {a : Act} {w : World} (ha : Sta Γ l res a w) (R : Rep α) {v : Value} (L : List α) (t : Nat) (ht : lk l t = some (.val v)) : Sta Γ ((t, .vw R v L L) :: l) res a w := by
  refine { ha with slots := fun t' e' ht' => ?_ }
  rw [lk_cons] at ht'
  split at ht'
  · rename_i hh; subst hh; cases ht'
    obtain ⟨u, h1, h2⟩ := ha.slots t _ ht
    exact ⟨_, h1, vwW (R := R) (Shr Γ.H res w) w _ h2⟩
  · exact ha.slots t' e' ht'
theorem flist_rd {R : Rep α} {T : TypeId} {b : List α} {S : Blk} {w : World} {v : Value} (h : (Cont.flist R T b).holds S w v) : ∃ p c xs, v = .slice p b.length c ∧ Rd w (.slice p b.length c) b.length R.sz xs ∧ relL R S w xs b := by
  rcases h with h | ⟨k, o, h1, h2, bb, cap, C, fr, rfl, rfl, h3, h4, h5⟩
  · exact h.elim
  · simp only [rblk, Option.some.injEq] at h1
    subst h1
    refine ⟨_, _, _, rfl, ⟨h5.len, .inr ⟨bb, 0, none, cap, rfl, h3, h4, .inr rfl, fun j u hu => ?_⟩⟩, h5⟩
    rw [List.getElem?_take] at hu
    split at hu
    · unfold World.cell?
      rw [h2]; simpa using hu
    · cases hu
theorem Sta.frzF {a : Act} {w : World} (ha : Sta Γ l res a w) {R : Rep α} {T : TypeId} {b : List α} {v : Value} (r t : Nat) (hr : lr res r = some (v, .flist R T b)) (ht : lk l t = some (.val v)) : Sta Γ ((t, .rd (sliceR R) b) :: l) ((r, none) :: res) a w := by
  have hst : Stay (Shr Γ.H res w) (Shr Γ.H ((r, none) :: res) w) w w := fun bb hb => ⟨⟨hb.1, fun r' v' c' hr' => by
    rw [lr_cons] at hr'
    split at hr'
    · cases hr'
    · exact hb.2.1 r' v' c' hr', hb.2.2⟩, rfl⟩
  have hsub : ∀ r' v' c', lr ((r, none) :: res) r' = some (v', c') → r ≠ r' ∧ lr res r' = some (v', c') := fun r' v' c' hr' => by
    rw [lr_cons] at hr'
    split at hr'
    · cases hr'
    · exact ⟨‹_›, hr'⟩
  refine ⟨ha.size, ha.defers, fun t' e ht' => ?_, fun r' v' c' hr' => (ha.conts r' v' c' (hsub _ _ _ hr').2).mono hst (fun _ _ => rfl), fun r1 v1 c1 r2 v2 c2 h1 h2 hne => ha.excl r1 v1 c1 r2 v2 c2 (hsub _ _ _ h1).2 (hsub _ _ _ h2).2 hne, fun r' v' c' hr' => ha.own r' v' c' (hsub _ _ _ hr').2, ha.keep, ha.old, ha.hid⟩
  rw [lk_cons] at ht'
  split at ht'
  · rename_i hh; subst hh; cases ht'
    obtain ⟨u, h1, rfl, -⟩ := ha.slots t _ ht
    obtain ⟨p, c, xs, rfl, h3, h4⟩ := flist_rd (ha.conts r u _ hr)
    refine ⟨_, h1, _, ⟨p, c, xs, rfl, h3, h4.mono hst, fun hne bb hbb => ?_⟩, rfl⟩
    have hbb : rblk (.slice p b.length c) = some bb := by rw [rblk_own, sblk_own]; exact hbb
    refine ⟨(ha.conts r _ _ hr).lt hbb, fun r' v' c' hr' e => ?_, fun hH => ha.own r _ _ hr bb hbb (ha.hid bb hH)⟩
    obtain ⟨k1, k2⟩ := hsub _ _ _ hr'
    exact ha.excl r _ _ r' v' c' hr k2 k1 bb hbb e
  · obtain ⟨u, h1, h2⟩ := ha.slots t' e ht'
    exact ⟨u, h1, e.mono hst h2⟩
/-- bytes that a string constant stands for: the run time marks the block -/
theorem lCvS {d : Tmp} {ty : TypeId} {pos : String} {after : Array Edge} {b : List UInt8} {v : Value} {x : Operand} {T e E : TypeId} (r : Nat) (hn : Nat.blt d Γ.n = true) (hx : opE l x = some (.val v)) (hr : lr res r = some (v, .list u8R E b)) (hT : P.underlying T = some (.slice e)) (he : P.underlying e = some (.int .u8)) (hb : b ≠ [])
    (k : GL P os (Sta Γ ((d, .rd (sliceR u8R) b) :: (d, .val v) :: l) ((r, none) :: (r, some (v, .flist u8R E b)) :: res)) rest N m) : GL P os (Sta Γ l res) (⟨some d, .convert T T x, ty, pos, after, none⟩ :: rest) N m := fun a w ha ρ hm => by
  have hv := ha.vl hx
  have h1 : a.eval x = v := hv.1
  rcases ha.conts r v _ hr with ⟨_, h2⟩ | ⟨bk, o, g1, g2, bb, cap, C, rfl, rfl, g3, g4, g5, g6⟩
  · exact absurd h2 hb
  · simp only [rblk, Option.some.injEq] at g1
    subst g1
    have hsh : w.shape? bb = some (E, C.size) := by simp [World.shape?, g2]
    have hm0 : (markStringish ⟨bb, 0, none⟩).run P w = .ok () (w.freeze { block := bb, off := C.size } 1) := by
      simp [markStringish, shape, freeze, hsh, bind, Sem.bind, Sem.run]
    have hrun : (execOp a.eval ⟨some d, .convert T T x, ty, pos, after, none⟩).run P w = .ok (.value (.slice (some ⟨bb, 0, none⟩) b.length cap)) (w.freeze { block := bb, off := C.size } 1) := by
      simp [execOp, h1, convert, run_underlying hT, run_underlying he, hm0]
    obtain ⟨h7, -⟩ := ha.upd r (v := .slice (some ⟨bb, 0, none⟩) b.length cap) (c := .flist u8R E b) (freeze_gr (w := w) { block := bb, off := C.size } 1) (fun q hq => ⟨_, _, hr, by cases hq; rfl⟩) (fun q hq => .inl ⟨_, _, hr, hq⟩) (fun S' k' => by
      obtain ⟨fr, hfr⟩ : ∃ fr, (w.freeze { block := bb, off := C.size } 1).heap[bb]? = some (.cells C E fr) := by
        unfold World.freeze
        rw [if_neg (by decide)]
        simp only [Array.getElem?_modify, if_true, g2, Option.map_some]
        exact ⟨_, rfl⟩
      exact .inr ⟨bb, _, rfl, hfr, bb, cap, C, fr, rfl, rfl, g3, g4, g6.mono k'⟩)
    have h8 := h7.put hn (e := .val (.slice (some ⟨bb, 0, none⟩) b.length cap)) ⟨rfl, rfl⟩
    exact st (g_none rfl) hrun (k _ _ (h8.frzF r d (lr_cons.trans (if_pos rfl)) (lk_cons.trans (if_pos rfl))) ρ hm)
end
end Go.Proofs.Ytklfgpdfongaeaa
