/- wire.rising: ContainsFunc with a closure. -/
import Derived.Test.YtklfgpdfongaeaaW4
namespace Go.Proofs.Ytklfgpdfongaeaa
open Go Go.RowKit
set_option linter.unusedSimpArgs false
set_option linter.unusedVariables false

set_option maxRecDepth 100000 in
theorem idx_rule {fid : FuncId} {caps : Array Value} {F : Func} {b : Code} (hF : Try.prog.funcs[fid]? = some F) (hB : F.body = some b) (hnm : (F.name == "runtime.NumGoroutine") = false)
    (pred : Nat → Bool) (Inv : Nat → World → Prop) (p : Option Addr) (l : List ID32) (c : Nat) (w : World) (hle0 : l.length ≤ 9223372036854775807)
    (hrd : ∀ i w', Inv i w' → RdL idsE w' p c l) (h0 : Inv 0 w)
    (hstep : ∀ i w', i < l.length → Inv i w' → Calls Try.prog fid (#[.agg (idsE.of (l.getD i ID32.zero)).toArray] ++ caps) w' (fun e w'' => e = .returned (.bool (pred i)) ∧ Inv (i + 1) w'')) :
    Calls Try.prog 139 #[.slice p l.length c, .func (.func fid) #[] caps] w (fun e w' => ∃ r : Int, e = .returned (.int .i64 r) ∧ (∃ k, Inv k w') ∧ (0 ≤ r ↔ ∃ j, j < l.length ∧ pred j = true)) := by
  refine enter (n := 19) (l := [(0, .slice p l.length c), (1, .func (.func fid) #[] caps)]) Try.func139 rfl rfl rfl rfl ?_; intro a f
  refine reg_seq ?_
  refine s_assign f (g_none rfl) rfl rfl ?_; clear f a; intro a f
  refine nil_then ?_
  refine wp_seq ?_
  refine reg_seq ?_
  refine s_move f (g_none rfl) rfl rfl ?_; clear f a; intro a f
  refine t_len f (g_none rfl) rfl rfl Try.underlying83 rfl ?_; clear f a; intro a f
  refine s_move f (g_none rfl) rfl rfl ?_; clear f a; intro a f
  refine nil_then ?_
  refine wp_block ?_
  refine loop_ghost (α := Nat) (fun i a wr => Frm 19 [(0, .slice p l.length c), (1, .func (.func fid) #[] caps), (7, .int .i64 ((l.length : Nat) : Int)), (8, .int .i64 ((i : Nat) : Int))] a ∧ Inv i wr ∧ i ≤ l.length ∧ ∀ j, j < i → pred j = false) (fun i => l.length - i) (0) ?_ ?_
  · exact ⟨(Frm.pick f (Frm.pick f (Frm.pick f (Frm.pick f f.nil rfl) rfl) rfl) rfl), h0, (by omega), fun j hj => by omega⟩
  · clear f a
    rintro i a wr ⟨f, hE, hi, hno⟩
    refine reg_seq ?_
    refine s_bin f (g_none rfl) rfl rfl rfl rfl ?_; clear f a; intro a f
    refine nil_then ?_
    refine wp_seq ?_
    by_cases hc2 : ((i : Nat) : Int) < ((l.length : Nat) : Int)
    · have hb3 : (decide (((i : Nat) : Int) < ((l.length : Nat) : Int))) = true := decide_eq_true hc2
      rw [hb3] at f
      refine c_true f rfl ?_
      refine wp_skip ?_
      refine then_n ?_
      refine wp_seq ?_
      refine wp_block ?_
      refine reg_seq ?_
      refine s_move f (g_none rfl) rfl rfl ?_; clear f a; intro a f
      refine s_assign f (g_none rfl) rfl rfl ?_; clear f a; intro a f
      refine nil_then ?_
      refine reg_seq ?_
      refine s_move f (g_none rfl) rfl rfl ?_; clear f a; intro a f
      refine s_move f (g_none rfl) rfl rfl ?_; clear f a; intro a f
      refine s_move f (g_none rfl) rfl rfl ?_; clear f a; intro a f
      refine t_indexAddr (j := i) (E := idsE) f (g_none rfl) rfl Try.underlying83 ti102 rfl (hrd _ _ hE) rfl rfl rfl (by omega) ?_; clear f a; intro a f
      refine t_loadA (j := i) (e := l.getD i ID32.zero) (E := idsE) f (g_none rfl) rfl ag102 ti102 rfl (hrd _ _ hE) rfl rfl (getD_some (by omega)) ?_; clear f a; intro a f
      refine s_callv f (g_none rfl) rfl rfl hF hB hnm (by rw [Array.empty_append]; exact congrArg (· ++ caps) (ev1 f rfl)) (hstep i _ (by omega) hE) ?_
      rintro _ w4 ⟨rfl, hE⟩; refine ⟨_, rfl, ?_⟩; clear f a; intro a f
      refine nil_then ?_
      cases hb6 : pred i
      · rw [hb6] at f
        refine c_false f rfl ?_
        refine wp_skip ?_
        refine blk_n ?_
        refine then_n ?_
        refine wp_region_lit ?_
        refine s_bin f (g_none rfl) rfl rfl rfl (arith_add (r := ((i + 1 : Nat) : Int)) (wrap_i64 (by omega) (by omega))) ?_; clear f a; intro a f
        refine s_move f (g_none rfl) rfl rfl ?_; clear f a; intro a f
        refine wpList_nil ?_
        refine then_n ?_
        refine ⟨(i + 1), ?_, ?_⟩
        · exact ⟨(Frm.pick f (Frm.pick f (Frm.pick f (Frm.pick f f.nil rfl) rfl) rfl) rfl), hE, (by omega), fun j hj => by
            rcases Nat.lt_or_ge j i with h | h
            · exact hno j h
            · rw [show j = i by omega]; exact hb6⟩
        · show l.length - (i + 1) < l.length - i; omega
      · rw [hb6] at f
        refine c_true f rfl ?_
        refine reg_seq ?_
        refine s_move f (g_none rfl) rfl rfl ?_; clear f a; intro a f
        refine s_assign f (g_none rfl) rfl rfl ?_; clear f a; intro a f
        refine nil_then ?_
        refine wp_ret ?_
        refine blk_r ?_
        refine then_r ?_
        refine then_r ?_
        refine blk_r ?_
        refine then_r ?_
        refine retG (vs := [.int .i64 ((i : Nat) : Int)]) f rfl ⟨rfl, trivial⟩ ?_
        exact ⟨_, rfl, ⟨_, hE⟩, ⟨fun _ => ⟨i, by omega, hb6⟩, fun _ => by omega⟩⟩
    · have hb7 : (decide (((i : Nat) : Int) < ((l.length : Nat) : Int))) = false := decide_eq_false hc2
      rw [hb7] at f
      refine c_false f rfl ?_
      refine wp_exit ?_
      refine then_e ?_
      refine then_e ?_
      refine blk_e ?_
      refine then_n ?_
      refine reg_seq ?_
      refine s_assign f (g_none rfl) rfl rfl ?_; clear f a; intro a f
      refine nil_then ?_
      refine wp_ret ?_
      refine retG (vs := [.int .i64 (-1)]) f rfl ⟨rfl, trivial⟩ ?_
      exact ⟨_, rfl, ⟨_, hE⟩, ⟨fun h => absurd h (by decide), fun ⟨j, hj, hp⟩ => by rw [hno j (by omega)] at hp; cases hp⟩⟩
set_option maxRecDepth 100000 in
theorem con_rule {fid : FuncId} {caps : Array Value} {F : Func} {b : Code} (hF : Try.prog.funcs[fid]? = some F) (hB : F.body = some b) (hnm : (F.name == "runtime.NumGoroutine") = false)
    (pred : Nat → Bool) (Inv : Nat → World → Prop) (p : Option Addr) (l : List ID32) (c : Nat) (w : World) (hle0 : l.length ≤ 9223372036854775807)
    (hrd : ∀ i w', Inv i w' → RdL idsE w' p c l) (h0 : Inv 0 w)
    (hstep : ∀ i w', i < l.length → Inv i w' → Calls Try.prog fid (#[.agg (idsE.of (l.getD i ID32.zero)).toArray] ++ caps) w' (fun e w'' => e = .returned (.bool (pred i)) ∧ Inv (i + 1) w'')) :
    Calls Try.prog 134 #[.slice p l.length c, .func (.func fid) #[] caps] w (fun e w' => ∃ r : Int, e = .returned (.bool (decide (0 ≤ r))) ∧ (∃ k, Inv k w') ∧ (0 ≤ r ↔ ∃ j, j < l.length ∧ pred j = true)) := by
  refine enter (n := 9) (l := [(0, .slice p l.length c), (1, .func (.func fid) #[] caps)]) Try.func134 rfl rfl rfl rfl ?_; intro a f
  refine reg_seq ?_
  refine s_assign f (g_none rfl) rfl rfl ?_; clear f a; intro a f
  refine nil_then ?_
  refine reg_seq ?_
  refine s_move f (g_none rfl) rfl rfl ?_; clear f a; intro a f
  refine s_move f (g_none rfl) rfl rfl ?_; clear f a; intro a f
  refine s_call f (g_none rfl) rfl Try.func139 rfl rfl (ev2 f rfl rfl) (idx_rule hF hB hnm pred Inv p l c _ hle0 hrd h0 hstep) ?_
  rintro _ w1 ⟨r2, rfl, hI, hr⟩; refine ⟨_, rfl, ?_⟩; clear f a; intro a f
  refine s_bin f (g_none rfl) rfl rfl rfl rfl ?_; clear f a; intro a f
  refine s_assign f (g_none rfl) rfl rfl ?_; clear f a; intro a f
  refine nil_then ?_
  refine wp_ret ?_
  refine retG (vs := [.bool (decide (0 ≤ r2))]) f rfl ⟨rfl, trivial⟩ ?_
  exact ⟨r2, rfl, hI, hr⟩
theorem cell_lt {w : World} {b o : Nat} {u : Value} (h : w.cell? ⟨b, o, none⟩ = some u) : b < w.heap.size := by
  rcases Nat.lt_or_ge b w.heap.size with h1 | h1
  · exact h1
  · unfold World.cell? at h; simp [Array.getElem?_eq_none h1] at h
theorem RdL.keep {α} {E : Enc α} {w w1 w2 : World} {p : Option Addr} {c cb : Nat} {l : List α} (h : RdL E w p c l) (e : Ext w w1) (g : Gb cb w1 w2) (hcb : w.heap.size ≤ cb) : RdL E w2 p c l := by
  by_cases hb : sblk p = some cb
  · refine ⟨h.1, ?_⟩
    rcases h.2 with h2 | ⟨b, o, sp, cap, hv, h2, h3, hsp, h4⟩
    · exact .inl h2
    · refine .inr ⟨b, o, sp, cap, hv, h2, h3, hsp, fun j u hu => ?_⟩
      exfalso
      have h5 := cell_lt (h4 j u hu)
      simp only [Value.slice.injEq] at hv
      rw [hv.1] at hb
      simp [sblk] at hb
      omega
  · exact (h.ext e).gr' g (by intro b e1; injection e1 with e1; subst e1; exact hb)
theorem RdL.old {w : World} {p : Option Addr} {c cb : Nat} {l : List ID32} (h : RdL idsE w p c l) (hl : 0 < l.length) (hcb : w.heap.size ≤ cb) : sblk p ≠ some cb := by
  intro hb
  rcases h.2 with ⟨h2, h3⟩ | ⟨b, o, sp, cap, hv, h2, h3, hsp, h4⟩
  · omega
  · have hlen := h.1
    have h0 : 0 < (idsE.cells l).length := by rw [hlen]; exact Nat.mul_pos hl (by decide)
    have h5 := cell_lt (h4 0 _ (List.getElem?_eq_getElem h0))
    simp only [Value.slice.injEq] at hv
    rw [hv.1] at hb
    simp [sblk] at hb
    omega
/-- The list rises. -/
def RisingP (l : List ID32) : Prop := ∀ k, k + 1 < l.length → Lib.compareBytes (l.getD k ID32.zero).bytes (l.getD (k + 1) ID32.zero).bytes < 0
noncomputable instance decRising (l : List ID32) : Decidable (RisingP l) := Classical.propDecidable _
set_option maxRecDepth 100000 in
theorem rising_calls (p : Option Addr) (l : List ID32) (c : Nat) (w : World) (hr0 : RdL idsE w p c l) :
    Calls Try.prog 115 #[.slice p l.length c] w (fun e w' => e = .returned (.bool (decide (RisingP l))) ∧ Ext w w') := by
  have hle0 := hr0.le
  refine enter (n := 8) (l := [(0, .slice p l.length c)]) Try.func115 rfl rfl rfl rfl ?_; intro a f
  refine reg_seq ?_
  refine s_box f (g_none rfl) rfl rfl ?_; clear f a; intro a w5 b1 f hx3 hb2 hl4
  change Bx w5 b1 #[.slice p l.length c] 83 at hb2
  have hlo6 : w.heap.size ≤ b1 := hl4
  clear hl4
  have hE := hx3; clear hx3
  refine s_assign f (g_none rfl) rfl rfl ?_; clear f a; intro a f
  refine nil_then ?_
  refine reg_seq ?_
  refine s_alloc f (g_none rfl) rfl ti3 ?_; clear f a; intro a w11 b7 f hx9 hb8 hl10
  change Bx w11 b7 #[.int .i64 (0)] 3 at hb8
  have hlo12 : w.heap.size ≤ b7 := Nat.le_trans hE.size hl10
  have hs13 : b7 ≠ b1 := fun e => by have h2 := hb2.lt; omega
  clear hl10
  replace hb2 := hb2.ext hx9
  replace hE := hE.tr hx9
  clear hx9
  refine s_storeB (C' := #[.int .i64 (0)]) f (g_none rfl) ti3 rfl rfl rfl (by intro u hu; revert u hu; simp [Value.cells, Value.oneCell']) hb8 (by decide) rfl ?_; intro w14 hg15 hb16
  replace hb2 := hb2.gr' hg15 (by intro e; injection e with e; exact hs13 e)
  replace hE := hE.gr hg15 (by intro b e; injection e with e; subst e; exact hlo12)
  clear hg15
  clear hb8
  refine nil_then ?_
  refine reg_seq ?_
  refine s_load (v := .slice p l.length c) f (g_none rfl) rfl sc83 rfl (hb2.cell' rfl) ?_; clear f a; intro a f
  refine s_mkfunc (v1 := #[]) f (g_none rfl) rfl (by simp) (ev2 f rfl rfl) ?_; clear f a; intro a f
  refine s_call f (g_none rfl) rfl Try.func134 rfl rfl (ev2 f rfl rfl) (con_rule (fid := 135) (caps := #[.pointer (some ⟨b7, 0, none⟩), .pointer (some ⟨b1, 0, none⟩)]) Try.func135 rfl rfl
    (fun k => decide (k + 1 < l.length ∧ 0 ≤ Lib.compareBytes (l.getD k ID32.zero).bytes (l.getD (k + 1) ID32.zero).bytes))
    (fun k w' => Gb b7 w14 w' ∧ Bx w' b7 #[.int .i64 ((k : Nat) : Int)] 3) p l c _ hle0 (fun i w' h => hr0.keep hE h.1 hlo12) ⟨Gb.refl _ _, hb16⟩ (fun i w' hi h => ?_)) ?_
  · exact (rising1_calls (x := l.getD i ID32.zero) (cb := b7) (sb := b1) (p := p) (l := l) (c := c) (k := i) (w := w') h.2
      (hb2.gr' h.1 (by intro e; injection e with e; exact hs13 e)) (hr0.keep hE h.1 hlo12) hs13 (hr0.old (by omega) hlo12) hi).mono fun e w'' he => ⟨he.1, h.1.tr' he.2.1, he.2.2⟩
  rintro _ w17 ⟨r, rfl, ⟨k, hG, -⟩, hr⟩; refine ⟨_, rfl, ?_⟩; clear f a; intro a f
  replace hE := hE.gr hG (by intro b e; injection e with e; subst e; exact hlo12)
  refine s_not f (g_none rfl) rfl rfl ?_; clear f a; intro a f
  refine s_assign f (g_none rfl) rfl rfl ?_; clear f a; intro a f
  refine nil_then ?_
  refine wp_ret ?_
  refine retG (vs := [.bool (!decide (0 ≤ r))]) f rfl ⟨rfl, trivial⟩ ?_
  refine ⟨congrArg (fun b => Ending.returned (.bool b)) ?_, hE⟩
  rw [← decide_not]
  refine decide_eq_decide.2 ⟨fun h k hk => ?_, fun h hn => ?_⟩
  · apply Classical.byContradiction; intro h2
    exact h (hr.2 ⟨k, by omega, decide_eq_true ⟨hk, by omega⟩⟩)
  · obtain ⟨j, hj, hp⟩ := hr.1 hn
    have := of_decide_eq_true hp
    have := h j this.1
    omega

end Go.Proofs.Ytklfgpdfongaeaa
