/- Walks. -/
import Derived.Test.YtklfgpdfongaeaaW2
import Derived.Test.YtklfgpdfongaeaaLibI
namespace Go.Proofs.Ytklfgpdfongaeaa
open Go Go.RowKit
set_option linter.unusedSimpArgs false
set_option linter.unusedVariables false

set_option maxRecDepth 100000 in
theorem bcmp_calls (p : Option Addr) (x : List UInt8) (c : Nat) (q : Option Addr) (y : List UInt8) (d : Nat) (w : World) (hr0 : RdL bytesE w p c x) (hr1 : RdL bytesE w q d y) :
    Calls Try.prog 140 #[.slice p x.length c, .slice q y.length d] w (fun e w' => e = .returned (.int .i64 (Lib.compareBytes x y)) ∧ w = w') := by
  have hle0 := hr0.le
  have hle1 := hr1.le
  refine enter (n := 8) (l := [(0, .slice p x.length c), (1, .slice q y.length d)]) Try.func140 rfl rfl rfl rfl ?_; intro a f
  refine reg_seq ?_
  refine s_assign f (g_none rfl) rfl rfl ?_; clear f a; intro a f
  refine nil_then ?_
  refine reg_seq ?_
  refine s_move f (g_none rfl) rfl rfl ?_; clear f a; intro a f
  refine s_move f (g_none rfl) rfl rfl ?_; clear f a; intro a f
  refine s_ext (e := Extern.BytealgCompare.compare) f (g_none rfl) rfl Try.func141 rfl rfl (by kernel_rfl) (by kernel_rfl) (ev2 f rfl rfl) (run_compare hr0 hr1) ?_; clear f a; intro a f
  refine s_assign f (g_none rfl) rfl rfl ?_; clear f a; intro a f
  refine nil_then ?_
  refine wp_ret ?_
  refine retG (vs := [.int .i64 (Lib.compareBytes x y)]) f rfl ⟨rfl, trivial⟩ ?_
  exact ⟨congrArg Ending.returned (rfl), rfl⟩

set_option maxRecDepth 100000 in
theorem dcmp_calls (x : ID32) (y : ID32) (w : World)  :
    Calls Try.prog 136 #[.agg ((idsE.of x).toArray), .agg ((idsE.of y).toArray)] w (fun e w' => e = .returned (.int .i64 (Lib.compareBytes x.bytes y.bytes)) ∧ Ext w w') := by
  refine enter (n := 8) (l := [(0, .agg ((idsE.of x).toArray)), (1, .agg ((idsE.of y).toArray))]) Try.func136 rfl rfl rfl rfl ?_; intro a f
  refine reg_seq ?_
  refine s_box f (g_none rfl) rfl rfl ?_; clear f a; intro a w5 b1 f hx3 hb2 hl4
  change Bx w5 b1 (idsE.of x).toArray 102 at hb2
  have hlo6 : w.heap.size ≤ b1 := hl4
  clear hl4
  have hE := hx3; clear hx3
  refine s_box f (g_none rfl) rfl rfl ?_; clear f a; intro a w11 b7 f hx9 hb8 hl10
  change Bx w11 b7 (idsE.of y).toArray 102 at hb8
  have hlo12 : w.heap.size ≤ b7 := Nat.le_trans hE.size hl10
  have hs13 : b7 ≠ b1 := fun e => by have h2 := hb2.lt; omega
  clear hl10
  replace hb2 := hb2.ext hx9
  replace hE := hE.tr hx9
  clear hx9
  refine s_assign f (g_none rfl) rfl rfl ?_; clear f a; intro a f
  refine nil_then ?_
  refine quiet_seq (w := w11) mixed (by kernel_rfl) ?_
  refine u_cutA (x) f (g_none rfl) rfl Try.underlying102 ti5 rfl ?_; clear f a; intro a f
  have hr14 := Bx.id hb2
  refine u_cutA (y) f (g_none rfl) rfl Try.underlying102 ti5 rfl ?_; clear f a; intro a f
  have hr15 := Bx.id hb8
  refine q_call f (g_none rfl) rfl Try.func140 rfl rfl (ev2 f rfl rfl) (fun wq hq => (bcmp_calls (p := some ⟨b1, 0, none⟩) (x := x.bytes) (c := 32) (q := some ⟨b7, 0, none⟩) (y := y.bytes) (d := 32) (w := wq) (hr0 := (hr14).ext hq) (hr1 := (hr15).ext hq)).mono fun e w2 ⟨h1, h2⟩ => ⟨h1, h2 ▸ Ext.rfl'⟩) ?_; clear f a; intro a f
  refine q_assign f (g_none rfl) rfl rfl ?_; clear f a; intro a f
  refine quiet_nil ?_; intro w17 hx16
  replace hb2 := hb2.ext hx16
  replace hb8 := hb8.ext hx16
  replace hr14 := hr14.ext hx16
  replace hr15 := hr15.ext hx16
  replace hE := hE.tr hx16
  clear hx16
  refine wp_ret ?_
  refine retG (vs := [.int .i64 (Lib.compareBytes x.bytes y.bytes)]) f rfl ⟨rfl, trivial⟩ ?_
  exact ⟨congrArg Ending.returned (rfl), hE⟩

set_option maxRecDepth 100000 in
theorem rising1_calls (x : ID32) (cb : Nat) (sb : Nat) (p : Option Addr) (l : List ID32) (c : Nat) (k : Nat) (w : World)  (hbc : Bx w cb #[.int .i64 ((k : Nat) : Int)] 3) (hbs : Bx w sb #[.slice p l.length c] 83) (hrl : RdL idsE w p c l) (hne : cb ≠ sb) (hse : sblk p ≠ some cb) (hkl : k < l.length) :
    Calls Try.prog 135 #[.agg ((idsE.of x).toArray), .pointer (some ⟨cb, 0, none⟩), .pointer (some ⟨sb, 0, none⟩)] w (fun e w' => e = .returned (.bool (decide ((k + 1 < l.length ∧ 0 ≤ Lib.compareBytes (l.getD k ID32.zero).bytes (l.getD (k + 1) ID32.zero).bytes)))) ∧ Gb cb w w' ∧ Bx w' cb #[.int .i64 ((k + 1 : Nat) : Int)] 3) := by
  have hle := hrl.le
  refine enter (n := 24) (l := [(0, .agg ((idsE.of x).toArray)), (1, .pointer (some ⟨cb, 0, none⟩)), (2, .pointer (some ⟨sb, 0, none⟩))]) Try.func135 rfl rfl rfl rfl ?_; intro a f
  refine reg_seq ?_
  refine s_box f (g_none rfl) rfl rfl ?_; clear f a; intro a w5 b1 f hx3 hb2 hl4
  change Bx w5 b1 (idsE.of x).toArray 102 at hb2
  have hlo6 : w.heap.size ≤ b1 := hl4
  have hs8 : b1 ≠ cb := fun e => by have h2 := hbc.lt; omega
  have hs9 : b1 ≠ sb := fun e => by have h2 := hbs.lt; omega
  clear hl4
  replace hrl := hrl.ext hx3
  replace hbc := hbc.ext hx3
  replace hbs := hbs.ext hx3
  have hE := Gb.start cb hx3; clear hx3
  refine s_assign f (g_none rfl) rfl rfl ?_; clear f a; intro a f
  refine nil_then ?_
  refine reg_seq ?_
  refine s_load (v := .int .i64 ((k : Nat) : Int)) f (g_none rfl) rfl sc3 rfl (hbc.cell' rfl) ?_; clear f a; intro a f
  refine s_bin f (g_none rfl) rfl rfl rfl (arith_add (r := ((k + 1 : Nat) : Int)) (wrap_i64 (by omega) (by omega))) ?_; clear f a; intro a f
  refine s_storeB (C' := #[.int .i64 ((k + 1 : Nat) : Int)]) f (g_none rfl) ti3 rfl rfl rfl (by intro u hu; revert u hu; simp [Value.cells, Value.oneCell']) hbc (by simp) rfl ?_; intro w10 hg11 hb12
  replace hrl := hrl.gr' hg11 (by intro b e; injection e with e; subst e; exact hse)
  replace hbs := hbs.gr' hg11 (by intro e; injection e with e; exact hne e)
  replace hb2 := hb2.gr' hg11 (by intro e; injection e with e; exact (Ne.symm hs8) e)
  replace hE := hE.gr hg11 (by intro b e; injection e with e; subst e; exact rfl)
  clear hg11
  clear hbc
  refine nil_then ?_
  refine quiet_seq (w := w10) mixed (by kernel_rfl) ?_
  refine q_load (v := .int .i64 ((k + 1 : Nat) : Int)) f (g_none rfl) rfl sc3 rfl (hb12.cell' rfl) ?_; clear f a; intro a f
  refine q_load (v := .slice p l.length c) f (g_none rfl) rfl sc83 rfl (hbs.cell' rfl) ?_; clear f a; intro a f
  refine u_len f (g_none rfl) rfl rfl Try.underlying83 rfl ?_; clear f a; intro a f
  refine q_bin f (g_none rfl) rfl rfl rfl rfl ?_; clear f a; intro a f
  refine q_move f (g_none rfl) rfl rfl ?_; clear f a; intro a f
  by_cases hc13 : ((k + 1 : Nat) : Int) < ((l.length : Nat) : Int)
  · skip
    have hb14 : (decide (((k + 1 : Nat) : Int) < ((l.length : Nat) : Int))) = true := decide_eq_true hc13
    rw [hb14] at f
    refine q_load (v := .slice p l.length c) f (g_yes f rfl rfl rfl) rfl sc83 rfl (hbs.cell' rfl) ?_; clear f a; intro a f
    refine q_load (v := .int .i64 ((k + 1 : Nat) : Int)) f (g_yes f rfl rfl rfl) rfl sc3 rfl (hb12.cell' rfl) ?_; clear f a; intro a f
    refine q_bin f (g_yes f rfl rfl rfl) rfl rfl rfl (arith_sub (r := ((k : Nat) : Int)) (wrap_i64 (by omega) (by omega))) ?_; clear f a; intro a f
    refine u_indexAddr (j := k) (E := idsE) f (g_yes f rfl rfl rfl) rfl Try.underlying83 ti102 rfl hrl rfl rfl rfl (by omega) ?_; clear f a; intro a f
    refine u_loadA (j := k) (e := l.getD k ID32.zero) (E := idsE) f (g_yes f rfl rfl rfl) rfl ag102 ti102 rfl hrl rfl rfl (getD_some (by omega)) ?_; clear f a; intro a f
    refine q_load (v := .slice p l.length c) f (g_yes f rfl rfl rfl) rfl sc83 rfl (hbs.cell' rfl) ?_; clear f a; intro a f
    refine q_load (v := .int .i64 ((k + 1 : Nat) : Int)) f (g_yes f rfl rfl rfl) rfl sc3 rfl (hb12.cell' rfl) ?_; clear f a; intro a f
    refine u_indexAddr (j := k + 1) (E := idsE) f (g_yes f rfl rfl rfl) rfl Try.underlying83 ti102 rfl hrl rfl rfl rfl (by omega) ?_; clear f a; intro a f
    refine u_loadA (j := k + 1) (e := l.getD (k + 1) ID32.zero) (E := idsE) f (g_yes f rfl rfl rfl) rfl ag102 ti102 rfl hrl rfl rfl (getD_some (by omega)) ?_; clear f a; intro a f
    refine q_call f (g_yes f rfl rfl rfl) rfl Try.func136 rfl rfl (ev2 f rfl rfl) (fun wq hq => (dcmp_calls (x := l.getD k ID32.zero) (y := l.getD (k + 1) ID32.zero) (w := wq) ).mono fun e w2 ⟨h1, h2⟩ => ⟨h1, h2⟩) ?_; clear f a; intro a f
    refine q_bin f (g_yes f rfl rfl rfl) rfl rfl rfl rfl ?_; clear f a; intro a f
    refine q_pick (r := .bool (decide (0 ≤ Lib.compareBytes (l.getD k ID32.zero).bytes (l.getD (k + 1) ID32.zero).bytes))) f (g_none rfl) rfl rfl rfl rfl rfl ?_; clear f a; intro a f
    refine q_assign f (g_none rfl) rfl rfl ?_; clear f a; intro a f
    refine quiet_nil ?_; intro w16 hx15
    replace hrl := hrl.ext hx15
    replace hb12 := hb12.ext hx15
    replace hbs := hbs.ext hx15
    replace hb2 := hb2.ext hx15
    replace hE := hE.tr hx15
    clear hx15
    refine wp_ret ?_
    refine retG (vs := [.bool (decide (0 ≤ Lib.compareBytes (l.getD k ID32.zero).bytes (l.getD (k + 1) ID32.zero).bytes))]) f rfl ⟨rfl, trivial⟩ ?_
    try rw [show k + 1 - 1 = k from rfl] at *
    exact ⟨congrArg Ending.returned ((congrArg Value.bool (decide_eq_decide.2 ⟨fun h => ⟨by omega, by omega⟩, fun h => by omega⟩))), hE, hb12⟩
  · skip
    have hb17 : (decide (((k + 1 : Nat) : Int) < ((l.length : Nat) : Int))) = false := decide_eq_false hc13
    rw [hb17] at f
    refine q_skip f (g_no f rfl rfl rfl) rfl ?_; clear f a; intro a f
    refine q_skip f (g_no f rfl rfl rfl) rfl ?_; clear f a; intro a f
    refine q_skip f (g_no f rfl rfl rfl) rfl ?_; clear f a; intro a f
    refine q_skip f (g_no f rfl rfl rfl) rfl ?_; clear f a; intro a f
    refine q_skip f (g_no f rfl rfl rfl) rfl ?_; clear f a; intro a f
    refine q_skip f (g_no f rfl rfl rfl) rfl ?_; clear f a; intro a f
    refine q_skip f (g_no f rfl rfl rfl) rfl ?_; clear f a; intro a f
    refine q_skip f (g_no f rfl rfl rfl) rfl ?_; clear f a; intro a f
    refine q_skip f (g_no f rfl rfl rfl) rfl ?_; clear f a; intro a f
    refine q_skip f (g_no f rfl rfl rfl) rfl ?_; clear f a; intro a f
    refine q_skip f (g_no f rfl rfl rfl) rfl ?_; clear f a; intro a f
    refine q_pick (r := .bool false) f (g_none rfl) rfl rfl rfl rfl rfl ?_; clear f a; intro a f
    refine q_assign f (g_none rfl) rfl rfl ?_; clear f a; intro a f
    refine quiet_nil ?_; intro w19 hx18
    replace hrl := hrl.ext hx18
    replace hb12 := hb12.ext hx18
    replace hbs := hbs.ext hx18
    replace hb2 := hb2.ext hx18
    replace hE := hE.tr hx18
    clear hx18
    refine wp_ret ?_
    refine retG (vs := [.bool false]) f rfl ⟨rfl, trivial⟩ ?_
    try rw [show k + 1 - 1 = k from rfl] at *
    exact ⟨congrArg Ending.returned ((congrArg Value.bool ((decide_eq_false (fun h => by omega)).symm))), hE, hb12⟩

end Go.Proofs.Ytklfgpdfongaeaa
