/- Walks. -/
import Derived.Test.YtklfgpdfongaeaaW1
namespace Go.Proofs.Ytklfgpdfongaeaa
open Go Go.RowKit
set_option linter.unusedSimpArgs false
set_option linter.unusedVariables false

set_option maxRecDepth 100000 in
theorem part_calls (p : Option Addr) (b : List UInt8) (c : Nat) (m : Int) (k : Nat) (h1 : -9223372036854775808 ≤ m) (h2 : m ≤ 9223372036854775807) (hk1 : 1 ≤ k) (hk2 : k ≤ 32) (w : World) (hr0 : RdL bytesE w p c b) :
    Calls Try.prog 107 #[.slice p b.length c, .int .i64 m, .int .i64 ((k : Nat) : Int)] w (fun e w' => ∃ q : Option Addr, ∃ d : Nat, e = .returned (.tuple #[.slice q ((partL b m k).1).length d, .int .i64 (((partL b m k).2.1 : Nat) : Int), .int .i64 (((partL b m k).2.2 : Nat) : Int)]) ∧ w = w' ∧ (∀ W, RdL bytesE W p c b → RdL bytesE W q d ((partL b m k).1))) := by
  have hrl := readN_lt b
  have hru := readN_used b
  have hle0 := hr0.le
  refine enter (n := 51) (l := [(0, .slice p b.length c), (1, .int .i64 m), (2, .int .i64 ((k : Nat) : Int))]) Try.func107 rfl rfl rfl rfl ?_; intro a f
  refine reg_seq ?_
  refine s_assign f (g_none rfl) rfl rfl ?_; clear f a; intro a f
  refine s_assign f (g_none rfl) rfl rfl ?_; clear f a; intro a f
  refine s_assign f (g_none rfl) rfl rfl ?_; clear f a; intro a f
  refine nil_then ?_
  refine wp_seq ?_
  refine reg_seq ?_
  refine s_move f (g_none rfl) rfl rfl ?_; clear f a; intro a f
  refine s_bin f (g_none rfl) rfl rfl rfl rfl ?_; clear f a; intro a f
  refine nil_then ?_
  by_cases hc1 : m < 0
  · skip
    have hb2 : (decide (m < 0)) = true := decide_eq_true hc1
    rw [hb2] at f
    refine c_true f rfl ?_
    refine reg_seq ?_
    refine s_assign f (g_none rfl) rfl rfl ?_; clear f a; intro a f
    refine s_assign f (g_none rfl) rfl rfl ?_; clear f a; intro a f
    refine s_assign f (g_none rfl) rfl rfl ?_; clear f a; intro a f
    refine nil_then ?_
    refine wp_ret ?_
    refine then_r ?_
    refine retG (vs := [.slice none 0 0, .int .i64 (0), .int .i64 (2)]) f rfl ⟨rfl, rfl, rfl, trivial⟩ ?_
    have hg := partL_arg (b := b) (k := k) (most := m) (by omega)
    have hl3 : [] = (partL b m k).1 := by rw [hg]
    exact ⟨none, 0, congrArg Ending.returned (tup3 (congrArg (fun l : List UInt8 => Value.slice none l.length 0) hl3) (congrArg (Value.int .i64) (by rw [hg] <;> rfl)) (congrArg (Value.int .i64) (by rw [hg] <;> rfl))), rfl, (by rw [hg]; exact (fun _ _ => RdL.nil))⟩
  · skip
    have hb4 : (decide (m < 0)) = false := decide_eq_false hc1
    rw [hb4] at f
    refine c_false f rfl ?_
    refine wp_skip ?_
    refine then_n ?_
    refine reg_seq ?_
    refine s_move f (g_none rfl) rfl rfl ?_; clear f a; intro a f
    refine s_call f (g_none rfl) rfl Try.func26 rfl rfl (ev1 f rfl) (readn_calls (p := p) (b := b) (c := c) (w := _) (hr0 := hr0)) ?_
    rintro _ _ ⟨rfl, rfl⟩; refine ⟨_, rfl, ?_⟩; clear f a; intro a f
    refine s_move f (g_none rfl) rfl rfl ?_; clear f a; intro a f
    refine s_extract (v := .int .u64 (((readN b).1 : Nat) : Int)) f (g_none rfl) rfl rfl rfl ?_; clear f a; intro a f
    refine s_extract (v := .int .i64 (((readN b).2.1 : Nat) : Int)) f (g_none rfl) rfl rfl rfl ?_; clear f a; intro a f
    refine s_extract (v := .int .i64 (((readN b).2.2 : Nat) : Int)) f (g_none rfl) rfl rfl rfl ?_; clear f a; intro a f
    refine s_assign f (g_none rfl) rfl rfl ?_; clear f a; intro a f
    refine s_assign f (g_none rfl) rfl rfl ?_; clear f a; intro a f
    refine s_assign f (g_none rfl) rfl rfl ?_; clear f a; intro a f
    refine nil_then ?_
    refine wp_seq ?_
    refine reg_seq ?_
    refine s_move f (g_none rfl) rfl rfl ?_; clear f a; intro a f
    refine s_bin (v := .bool (decide ((((readN b).2.2 : Nat) : Int) ≠ 0))) f (g_none rfl) rfl rfl rfl arith_neq ?_; clear f a; intro a f
    refine s_move f (g_none rfl) rfl rfl ?_; clear f a; intro a f
    by_cases hc6 : (((readN b).2.2 : Nat) : Int) ≠ 0
    · skip
      have hb7 : (decide ((((readN b).2.2 : Nat) : Int) ≠ 0)) = true := decide_eq_true hc6
      rw [hb7] at f
      refine s_skip f (g_no f rfl rfl rfl) rfl ?_; clear f a; intro a f
      refine s_skip f (g_no f rfl rfl rfl) rfl ?_; clear f a; intro a f
      refine s_skip f (g_no f rfl rfl rfl) rfl ?_; clear f a; intro a f
      refine s_skip f (g_no f rfl rfl rfl) rfl ?_; clear f a; intro a f
      refine s_pick (r := .bool true) f (g_none rfl) rfl rfl rfl rfl rfl ?_; clear f a; intro a f
      refine s_move f (g_none rfl) rfl rfl ?_; clear f a; intro a f
      refine s_skip f (g_no f rfl rfl rfl) rfl ?_; clear f a; intro a f
      refine s_skip f (g_no f rfl rfl rfl) rfl ?_; clear f a; intro a f
      refine s_skip f (g_no f rfl rfl rfl) rfl ?_; clear f a; intro a f
      refine s_skip f (g_no f rfl rfl rfl) rfl ?_; clear f a; intro a f
      refine s_skip f (g_no f rfl rfl rfl) rfl ?_; clear f a; intro a f
      refine s_skip f (g_no f rfl rfl rfl) rfl ?_; clear f a; intro a f
      refine s_skip f (g_no f rfl rfl rfl) rfl ?_; clear f a; intro a f
      refine s_skip f (g_no f rfl rfl rfl) rfl ?_; clear f a; intro a f
      refine s_skip f (g_no f rfl rfl rfl) rfl ?_; clear f a; intro a f
      refine s_pick (r := .bool true) f (g_none rfl) rfl rfl rfl rfl rfl ?_; clear f a; intro a f
      refine nil_then ?_
      refine c_true f rfl ?_
      refine reg_seq ?_
      refine s_assign f (g_none rfl) rfl rfl ?_; clear f a; intro a f
      refine s_assign f (g_none rfl) rfl rfl ?_; clear f a; intro a f
      refine s_assign f (g_none rfl) rfl rfl ?_; clear f a; intro a f
      refine nil_then ?_
      refine wp_ret ?_
      refine then_r ?_
      refine retG (vs := [.slice none 0 0, .int .i64 (0), .int .i64 (12)]) f rfl ⟨rfl, rfl, rfl, trivial⟩ ?_
      have hg := partL_bad (b := b) (k := k) (most := m) (by omega) (by omega)
      have hl8 : [] = (partL b m k).1 := by rw [hg]
      exact ⟨none, 0, congrArg Ending.returned (tup3 (congrArg (fun l : List UInt8 => Value.slice none l.length 0) hl8) (congrArg (Value.int .i64) (by rw [hg] <;> rfl)) (congrArg (Value.int .i64) (by rw [hg] <;> rfl))), rfl, (by rw [hg]; exact (fun _ _ => RdL.nil))⟩
    · skip
      have hb9 : (decide ((((readN b).2.2 : Nat) : Int) ≠ 0)) = false := decide_eq_false hc6
      rw [hb9] at f
      refine s_move f (g_yes f rfl rfl rfl) rfl rfl ?_; clear f a; intro a f
      refine s_move f (g_yes f rfl rfl rfl) rfl rfl ?_; clear f a; intro a f
      refine s_conv (r := m) f (g_yes f rfl rfl rfl) rfl Try.underlying3 Try.underlying31 rfl (wrap_u64 (by omega) rfl) ?_; clear f a; intro a f
      refine s_bin f (g_yes f rfl rfl rfl) rfl rfl rfl rfl ?_; clear f a; intro a f
      refine s_pick (r := .bool (decide (m < (((readN b).1 : Nat) : Int)))) f (g_none rfl) rfl rfl rfl rfl rfl ?_; clear f a; intro a f
      refine s_move f (g_none rfl) rfl rfl ?_; clear f a; intro a f
      by_cases hc10 : m < (((readN b).1 : Nat) : Int)
      · skip
        have hb11 : (decide (m < (((readN b).1 : Nat) : Int))) = true := decide_eq_true hc10
        rw [hb11] at f
        refine s_skip f (g_no f rfl rfl rfl) rfl ?_; clear f a; intro a f
        refine s_skip f (g_no f rfl rfl rfl) rfl ?_; clear f a; intro a f
        refine s_skip f (g_no f rfl rfl rfl) rfl ?_; clear f a; intro a f
        refine s_skip f (g_no f rfl rfl rfl) rfl ?_; clear f a; intro a f
        refine s_skip f (g_no f rfl rfl rfl) rfl ?_; clear f a; intro a f
        refine s_skip f (g_no f rfl rfl rfl) rfl ?_; clear f a; intro a f
        refine s_skip f (g_no f rfl rfl rfl) rfl ?_; clear f a; intro a f
        refine s_skip f (g_no f rfl rfl rfl) rfl ?_; clear f a; intro a f
        refine s_skip f (g_no f rfl rfl rfl) rfl ?_; clear f a; intro a f
        refine s_pick (r := .bool true) f (g_none rfl) rfl rfl rfl rfl rfl ?_; clear f a; intro a f
        refine nil_then ?_
        refine c_true f rfl ?_
        refine reg_seq ?_
        refine s_assign f (g_none rfl) rfl rfl ?_; clear f a; intro a f
        refine s_assign f (g_none rfl) rfl rfl ?_; clear f a; intro a f
        refine s_assign f (g_none rfl) rfl rfl ?_; clear f a; intro a f
        refine nil_then ?_
        refine wp_ret ?_
        refine then_r ?_
        refine retG (vs := [.slice none 0 0, .int .i64 (0), .int .i64 (12)]) f rfl ⟨rfl, rfl, rfl, trivial⟩ ?_
        have hg := partL_bad (b := b) (k := k) (most := m) (by omega) (by omega)
        have hl12 : [] = (partL b m k).1 := by rw [hg]
        exact ⟨none, 0, congrArg Ending.returned (tup3 (congrArg (fun l : List UInt8 => Value.slice none l.length 0) hl12) (congrArg (Value.int .i64) (by rw [hg] <;> rfl)) (congrArg (Value.int .i64) (by rw [hg] <;> rfl))), rfl, (by rw [hg]; exact (fun _ _ => RdL.nil))⟩
      · skip
        have hb13 : (decide (m < (((readN b).1 : Nat) : Int))) = false := decide_eq_false hc10
        rw [hb13] at f
        refine s_move f (g_yes f rfl rfl rfl) rfl rfl ?_; clear f a; intro a f
        refine s_move f (g_yes f rfl rfl rfl) rfl rfl ?_; clear f a; intro a f
        refine t_len f (g_yes f rfl rfl rfl) rfl rfl Try.underlying32 rfl ?_; clear f a; intro a f
        refine s_move f (g_yes f rfl rfl rfl) rfl rfl ?_; clear f a; intro a f
        refine s_bin f (g_yes f rfl rfl rfl) rfl rfl rfl (arith_sub (r := ((b.length - ((readN b).2.1) : Nat) : Int)) (wrap_i64 (by omega) (by omega))) ?_; clear f a; intro a f
        refine s_move f (g_yes f rfl rfl rfl) rfl rfl ?_; clear f a; intro a f
        have hdv : (b.length - (readN b).2.1) / k ≤ b.length := Nat.le_trans (Nat.div_le_self _ _) (Nat.sub_le _ _)
        refine s_quo (r := (((b.length - (readN b).2.1) / k : Nat) : Int)) f (g_yes f rfl rfl rfl) rfl rfl rfl (by omega) (quo_i64 (x := b.length - (readN b).2.1) (y := k) (by omega) (by omega)) ?_; clear f a; intro a f
        refine s_conv (r := (((b.length - (readN b).2.1) / k : Nat) : Int)) f (g_yes f rfl rfl rfl) rfl Try.underlying3 Try.underlying31 rfl (nat_u64 ((b.length - (readN b).2.1) / k) (by omega)) ?_; clear f a; intro a f
        refine s_bin f (g_yes f rfl rfl rfl) rfl rfl rfl rfl ?_; clear f a; intro a f
        refine s_pick (r := .bool (decide ((((b.length - (readN b).2.1) / k : Nat) : Int) < (((readN b).1 : Nat) : Int)))) f (g_none rfl) rfl rfl rfl rfl rfl ?_; clear f a; intro a f
        refine nil_then ?_
        by_cases hc14 : (((b.length - (readN b).2.1) / k : Nat) : Int) < (((readN b).1 : Nat) : Int)
        · skip
          have hb15 : (decide ((((b.length - (readN b).2.1) / k : Nat) : Int) < (((readN b).1 : Nat) : Int))) = true := decide_eq_true hc14
          rw [hb15] at f
          refine c_true f rfl ?_
          refine reg_seq ?_
          refine s_assign f (g_none rfl) rfl rfl ?_; clear f a; intro a f
          refine s_assign f (g_none rfl) rfl rfl ?_; clear f a; intro a f
          refine s_assign f (g_none rfl) rfl rfl ?_; clear f a; intro a f
          refine nil_then ?_
          refine wp_ret ?_
          refine then_r ?_
          refine retG (vs := [.slice none 0 0, .int .i64 (0), .int .i64 (12)]) f rfl ⟨rfl, rfl, rfl, trivial⟩ ?_
          have hg := partL_bad (b := b) (k := k) (most := m) (by omega) (by omega)
          have hl16 : [] = (partL b m k).1 := by rw [hg]
          exact ⟨none, 0, congrArg Ending.returned (tup3 (congrArg (fun l : List UInt8 => Value.slice none l.length 0) hl16) (congrArg (Value.int .i64) (by rw [hg] <;> rfl)) (congrArg (Value.int .i64) (by rw [hg] <;> rfl))), rfl, (by rw [hg]; exact (fun _ _ => RdL.nil))⟩
        · skip
          have hb17 : (decide ((((b.length - (readN b).2.1) / k : Nat) : Int) < (((readN b).1 : Nat) : Int))) = false := decide_eq_false hc14
          rw [hb17] at f
          refine c_false f rfl ?_
          refine wp_skip ?_
          refine then_n ?_
          refine reg_seq ?_
          refine s_move f (g_none rfl) rfl rfl ?_; clear f a; intro a f
          refine s_move f (g_none rfl) rfl rfl ?_; clear f a; intro a f
          refine s_move f (g_none rfl) rfl rfl ?_; clear f a; intro a f
          refine s_conv (r := (((readN b).1 : Nat) : Int)) f (g_none rfl) rfl Try.underlying31 Try.underlying3 rfl (nat_i64 ((readN b).1) (by omega)) ?_; clear f a; intro a f
          have hkn := part_fits (b := b) (k := k) (by omega)
          refine s_bin f (g_none rfl) rfl rfl rfl (arith_mul (r := ((k * ((readN b).1) : Nat) : Int)) (wrap_i64 (by omega) (by omega))) ?_; clear f a; intro a f
          refine s_bin f (g_none rfl) rfl rfl rfl (arith_add (r := (((readN b).2.1 + (k * ((readN b).1)) : Nat) : Int)) (wrap_i64 (by omega) (by omega))) ?_; clear f a; intro a f
          refine s_assign f (g_none rfl) rfl rfl ?_; clear f a; intro a f
          refine nil_then ?_
          refine reg_seq ?_
          refine s_move f (g_none rfl) rfl rfl ?_; clear f a; intro a f
          refine s_move f (g_none rfl) rfl rfl ?_; clear f a; intro a f
          refine s_move f (g_none rfl) rfl rfl ?_; clear f a; intro a f
          refine t_cut (i := (readN b).2.1) (j := (readN b).2.1 + (k * ((readN b).1))) (E := bytesE) (l' := (b.drop (readN b).2.1).take (k * (readN b).1)) f (g_none rfl) rfl Try.underlying32 ti5 rfl hr0 (.inr ⟨_, _, rfl, rfl⟩) (.inr ⟨_, _, rfl, rfl⟩) (by omega) (by omega) (by rw [Nat.add_sub_cancel_left]) ?_; clear f a; intro a p18 c19 f hs20 hq21
          have hr22 := hs20 _ hr0
          refine s_move f (g_none rfl) rfl rfl ?_; clear f a; intro a f
          refine s_assign f (g_none rfl) rfl rfl ?_; clear f a; intro a f
          refine s_assign f (g_none rfl) rfl rfl ?_; clear f a; intro a f
          refine s_assign f (g_none rfl) rfl rfl ?_; clear f a; intro a f
          refine nil_then ?_
          refine wp_ret ?_
          refine retG (vs := [.slice p18 ((b.drop (readN b).2.1).take (k * (readN b).1)).length c19, .int .i64 (((readN b).2.1 + (k * ((readN b).1)) : Nat) : Int), .int .i64 (0)]) f rfl ⟨rfl, rfl, rfl, trivial⟩ ?_
          have hg := partL_good (b := b) (k := k) (most := m) (by omega) (by omega)
          have hl23 : (b.drop (readN b).2.1).take (k * (readN b).1) = (partL b m k).1 := by rw [hg]
          exact ⟨p18, c19, congrArg Ending.returned (tup3 (congrArg (fun l : List UInt8 => Value.slice p18 l.length c19) hl23) (congrArg (Value.int .i64) (by rw [hg] <;> rfl)) (congrArg (Value.int .i64) (by rw [hg] <;> rfl))), rfl, (by rw [hg]; exact hs20)⟩

set_option maxRecDepth 100000 in
theorem clone_calls (p : Option Addr) (b : List UInt8) (c : Nat) (hb : b.length ≤ 1000000) (w : World) (hr0 : RdL bytesE w p c b) :
    Calls Try.prog 108 #[.slice p b.length c] w (fun e w' => ∃ q : Option Addr, ∃ d : Nat, e = .returned (.slice q b.length d) ∧ Ext w w' ∧ OwL bytesE w' w.heap.size 5 q d b) := by
  have hle0 := hr0.le
  refine enter (n := 8) (l := [(0, .slice p b.length c)]) Try.func108 rfl rfl rfl rfl ?_; intro a f
  refine reg_seq ?_
  refine s_assign f (g_none rfl) rfl rfl ?_; clear f a; intro a f
  refine nil_then ?_
  refine wp_seq ?_
  refine reg_seq ?_
  refine s_move f (g_none rfl) rfl rfl ?_; clear f a; intro a f
  refine s_eqlNil f (g_none rfl) rfl Try.underlying32 rfl rfl ?_; clear f a; intro a f
  refine nil_then ?_
  by_cases hc1 : p = none
  · skip
    have hb2 : (decide (p = none)) = true := decide_eq_true hc1
    rw [hb2] at f
    have hp0 := hc1
    refine c_true f rfl ?_
    refine reg_seq ?_
    refine s_assign f (g_none rfl) rfl rfl ?_; clear f a; intro a f
    refine nil_then ?_
    refine wp_ret ?_
    refine then_r ?_
    refine retG (vs := [.slice none 0 0]) f rfl ⟨rfl, trivial⟩ ?_
    have hl3 : [] = b := by have h1 := hr0; rw [hp0] at h1; exact h1.of_none.symm
    exact ⟨none, 0, congrArg Ending.returned ((congrArg (fun l : List UInt8 => Value.slice none l.length 0) hl3)), Ext.rfl', (hl3 ▸ OwL.nil)⟩
  · skip
    have hb4 : (decide (p = none)) = false := decide_eq_false hc1
    rw [hb4] at f
    refine c_false f rfl ?_
    refine wp_skip ?_
    refine then_n ?_
    refine reg_seq ?_
    refine t_lit (E := bytesE) (l := ([] : List UInt8)) (B := w.heap.size) f (g_none rfl) rfl Try.underlying32 ti5 rfl (pt0 f) (by decide) (fill_lit [] rfl rfl (by simp [Value.cells])) rfl rfl (Nat.le_refl _) ?_; clear f a; intro a w10 p5 c6 f hx8 ho7 hn9
    have hE := hx8; clear hx8
    clear hn9
    refine s_move f (g_none rfl) rfl rfl ?_; clear f a; intro a f
    refine t_append (E := bytesE) (l := ([] : List UInt8)) (m := b) (lm := ([] : List UInt8) ++ b) (B := w.heap.size) f (g_none rfl) rfl Try.underlying32 ti5 rfl rfl rfl ho7 (hr0.ext hE) (by simp; omega) (by simp; omega) (hE.size) rfl ?_; clear f a; intro a w16 p11 c12 f ho13 hg14 hn15
    replace hE := hE.gr hg14 (fun b e => (ho7.lt e).1)
    clear hg14
    clear ho7
    clear hn15
    refine s_assign f (g_none rfl) rfl rfl ?_; clear f a; intro a f
    refine nil_then ?_
    refine wp_ret ?_
    refine retG (vs := [.slice p11 (([] : List UInt8) ++ b).length c12]) f rfl ⟨rfl, trivial⟩ ?_
    have hl17 : ([] : List UInt8) ++ b = b := by simp
    exact ⟨p11, c12, congrArg Ending.returned ((congrArg (fun l : List UInt8 => Value.slice p11 l.length c12) hl17)), hE, (hl17 ▸ ho13)⟩

set_option maxRecDepth 100000 in
theorem readb_calls (p : Option Addr) (b : List UInt8) (c : Nat) (m : Int) (h1 : -9223372036854775808 ≤ m) (h2 : m ≤ 9223372036854775807) (hb : b.length ≤ 1000000) (w : World) (hr0 : RdL bytesE w p c b) :
    Calls Try.prog 48 #[.slice p b.length c, .int .i64 m] w (fun e w' => ∃ q : Option Addr, ∃ d : Nat, e = .returned (.tuple #[.slice q ((partL b m 1).1).length d, .int .i64 (((partL b m 1).2.1 : Nat) : Int), .int .i64 (((partL b m 1).2.2 : Nat) : Int)]) ∧ Ext w w' ∧ OwL bytesE w' w.heap.size 5 q d ((partL b m 1).1)) := by
  have hpl := partL_len b m 1
  have hle0 := hr0.le
  refine enter (n := 21) (l := [(0, .slice p b.length c), (1, .int .i64 m)]) Try.func48 rfl rfl rfl rfl ?_; intro a f
  refine reg_seq ?_
  refine s_assign f (g_none rfl) rfl rfl ?_; clear f a; intro a f
  refine s_assign f (g_none rfl) rfl rfl ?_; clear f a; intro a f
  refine s_assign f (g_none rfl) rfl rfl ?_; clear f a; intro a f
  refine nil_then ?_
  refine reg_seq ?_
  refine s_move f (g_none rfl) rfl rfl ?_; clear f a; intro a f
  refine s_move f (g_none rfl) rfl rfl ?_; clear f a; intro a f
  refine s_call f (g_none rfl) rfl Try.func107 rfl rfl (ev3 f rfl rfl rfl) (part_calls (p := p) (b := b) (c := c) (m := m) (k := 1) (h1 := (by omega)) (h2 := (by omega)) (hk1 := (by omega)) (hk2 := (by omega)) (w := _) (hr0 := hr0)) ?_
  rintro _ _ ⟨q1, d2, rfl, rfl, ho4⟩; refine ⟨_, rfl, ?_⟩; clear f a; intro a f
  have hr5 := ho4 _ hr0; clear ho4
  refine s_move f (g_none rfl) rfl rfl ?_; clear f a; intro a f
  refine s_extract (v := .slice q1 ((partL b m 1).1).length d2) f (g_none rfl) rfl rfl rfl ?_; clear f a; intro a f
  refine s_extract (v := .int .i64 (((partL b m 1).2.1 : Nat) : Int)) f (g_none rfl) rfl rfl rfl ?_; clear f a; intro a f
  refine s_extract (v := .int .i64 (((partL b m 1).2.2 : Nat) : Int)) f (g_none rfl) rfl rfl rfl ?_; clear f a; intro a f
  refine s_assign f (g_none rfl) rfl rfl ?_; clear f a; intro a f
  refine s_assign f (g_none rfl) rfl rfl ?_; clear f a; intro a f
  refine s_assign f (g_none rfl) rfl rfl ?_; clear f a; intro a f
  refine nil_then ?_
  refine reg_seq ?_
  refine s_move f (g_none rfl) rfl rfl ?_; clear f a; intro a f
  refine s_call f (g_none rfl) rfl Try.func108 rfl rfl (ev1 f rfl) (clone_calls (p := q1) (b := (partL b m 1).1) (c := d2) (hb := (by omega)) (w := _) (hr0 := hr5)) ?_
  rintro _ w6 ⟨q7, d8, rfl, hx9, ho10⟩; refine ⟨_, rfl, ?_⟩; clear f a; intro a f
  replace ho10 := ho10.mono (Nat.le_refl _)
  have hE := hx9; clear hx9
  refine s_move f (g_none rfl) rfl rfl ?_; clear f a; intro a f
  refine s_move f (g_none rfl) rfl rfl ?_; clear f a; intro a f
  refine s_assign f (g_none rfl) rfl rfl ?_; clear f a; intro a f
  refine s_assign f (g_none rfl) rfl rfl ?_; clear f a; intro a f
  refine s_assign f (g_none rfl) rfl rfl ?_; clear f a; intro a f
  refine nil_then ?_
  refine wp_ret ?_
  refine retG (vs := [.slice q7 ((partL b m 1).1).length d8, .int .i64 (((partL b m 1).2.1 : Nat) : Int), .int .i64 (((partL b m 1).2.2 : Nat) : Int)]) f rfl ⟨rfl, rfl, rfl, trivial⟩ ?_
  have hl11 : ((partL b m 1).1) = (partL b m 1).1 := by simp
  exact ⟨q7, d8, congrArg Ending.returned (tup3 (congrArg (fun l : List UInt8 => Value.slice q7 l.length d8) hl11) rfl rfl), hE, (hl11 ▸ ho10)⟩

set_option maxRecDepth 100000 in
theorem wbytes_calls (p : Option Addr) (b : List UInt8) (c : Nat) (w : World) (hr0 : RdL bytesE w p c b) :
    Calls Try.prog 47 #[.slice p b.length c] w (fun e w' => ∃ q : Option Addr, ∃ d : Nat, e = .returned (.tuple #[.slice q ((bytesOf b).1).length d, .int .i64 (((bytesOf b).2 : Nat) : Int)]) ∧ Ext w w' ∧ OwL bytesE w' w.heap.size 5 q d ((bytesOf b).1)) := by
  have hle0 := hr0.le
  refine enter (n := 13) (l := [(0, .slice p b.length c)]) Try.func47 rfl rfl rfl rfl ?_; intro a f
  refine reg_seq ?_
  refine s_assign f (g_none rfl) rfl rfl ?_; clear f a; intro a f
  refine s_assign f (g_none rfl) rfl rfl ?_; clear f a; intro a f
  refine nil_then ?_
  refine wp_seq ?_
  refine reg_seq ?_
  refine s_move f (g_none rfl) rfl rfl ?_; clear f a; intro a f
  refine t_len f (g_none rfl) rfl rfl Try.underlying32 rfl ?_; clear f a; intro a f
  refine s_bin f (g_none rfl) rfl rfl rfl rfl ?_; clear f a; intro a f
  refine nil_then ?_
  by_cases hc1 : 10000 < ((b.length : Nat) : Int)
  · skip
    have hb2 : (decide (10000 < ((b.length : Nat) : Int))) = true := decide_eq_true hc1
    rw [hb2] at f
    refine c_true f rfl ?_
    refine reg_seq ?_
    refine s_assign f (g_none rfl) rfl rfl ?_; clear f a; intro a f
    refine s_assign f (g_none rfl) rfl rfl ?_; clear f a; intro a f
    refine nil_then ?_
    refine wp_ret ?_
    refine then_r ?_
    refine retG (vs := [.slice none 0 0, .int .i64 (4)]) f rfl ⟨rfl, rfl, trivial⟩ ?_
    have hg := bytesOf_many (s := b) (by omega)
    have hl3 : [] = (bytesOf b).1 := by rw [hg]
    exact ⟨none, 0, congrArg Ending.returned (tup2 (congrArg (fun l : List UInt8 => Value.slice none l.length 0) hl3) (congrArg (Value.int .i64) (by rw [hg] <;> rfl))), Ext.rfl', (hl3 ▸ OwL.nil)⟩
  · skip
    have hb4 : (decide (10000 < ((b.length : Nat) : Int))) = false := decide_eq_false hc1
    rw [hb4] at f
    refine c_false f rfl ?_
    refine wp_skip ?_
    refine then_n ?_
    refine reg_seq ?_
    refine s_move f (g_none rfl) rfl rfl ?_; clear f a; intro a f
    refine t_len f (g_none rfl) rfl rfl Try.underlying32 rfl ?_; clear f a; intro a f
    refine s_conv (r := ((b.length : Nat) : Int)) f (g_none rfl) rfl Try.underlying3 Try.underlying31 rfl (nat_u64 b.length (by omega)) ?_; clear f a; intro a f
    refine s_call f (g_none rfl) rfl Try.func31 rfl rfl (ev1 f rfl) (number_calls (n := b.length) (hn := (by omega)) (w := _) ) ?_
    rintro _ w5 ⟨p6, c7, rfl, hx8, ho9⟩; refine ⟨_, rfl, ?_⟩; clear f a; intro a f
    replace ho9 := ho9.mono (Nat.le_refl _)
    have hE := hx8; clear hx8
    refine s_move f (g_none rfl) rfl rfl ?_; clear f a; intro a f
    have hnl := numBytes_len b.length (by omega)
    refine t_append (E := bytesE) (l := numBytes b.length) (m := b) (lm := (numBytes b.length) ++ b) (B := w.heap.size) f (g_none rfl) rfl Try.underlying32 ti5 rfl rfl rfl ho9 (hr0.ext hE) (by omega) (by omega) (hE.size) rfl ?_; clear f a; intro a w15 p10 c11 f ho12 hg13 hn14
    replace hE := hE.gr hg13 (fun b e => (ho9.lt e).1)
    clear hg13
    clear ho9
    clear hn14
    refine s_assign f (g_none rfl) rfl rfl ?_; clear f a; intro a f
    refine s_assign f (g_none rfl) rfl rfl ?_; clear f a; intro a f
    refine nil_then ?_
    refine wp_ret ?_
    refine retG (vs := [.slice p10 ((numBytes b.length) ++ b).length c11, .int .i64 (0)]) f rfl ⟨rfl, rfl, trivial⟩ ?_
    have hg := bytesOf_ok (s := b) (by omega)
    have hl16 : (numBytes b.length) ++ b = (bytesOf b).1 := by rw [hg]
    exact ⟨p10, c11, congrArg Ending.returned (tup2 (congrArg (fun l : List UInt8 => Value.slice p10 l.length c11) hl16) (congrArg (Value.int .i64) (by rw [hg] <;> rfl))), hE, (hl16 ▸ ho12)⟩

set_option maxRecDepth 100000 in
theorem before_calls (p : Option Addr) (x : List UInt8) (c : Nat) (q : Option Addr) (y : List UInt8) (d : Nat) (w : World) (hr0 : RdL bytesE w p c x) (hr1 : RdL bytesE w q d y) :
    Calls Try.prog 35 #[.slice p x.length c, .slice q y.length d] w (fun e w' => e = .returned (.bool (bLt x y)) ∧ Ext w w') := by
  have hle0 := hr0.le
  have hle1 := hr1.le
  refine enter (n := 41) (l := [(0, .slice p x.length c), (1, .slice q y.length d)]) Try.func35 rfl rfl rfl rfl ?_; intro a f
  refine reg_seq ?_
  refine s_assign f (g_none rfl) rfl rfl ?_; clear f a; intro a f
  refine nil_then ?_
  refine wp_seq ?_
  refine reg_seq ?_
  refine s_assign f (g_none rfl) rfl rfl ?_; clear f a; intro a f
  refine nil_then ?_
  refine wp_block ?_
  refine loop_ghost (α := Nat) (fun gg a wr => let i := gg; Frm 41 [(0, .slice p x.length c), (1, .slice q y.length d), (5, .int .i64 ((i : Nat) : Int))] a ∧ Ext w wr ∧ i ≤ x.length ∧ i ≤ y.length ∧ bLt x y = bLt (x.drop i) (y.drop i)) (fun gg => let i := gg; x.length - i) (0) ?_ ?_
  · skip
    exact ⟨(Frm.pick f (Frm.pick f (Frm.pick f f.nil rfl) rfl) rfl), Ext.rfl', (by omega), (by omega), rfl⟩
  · skip
    clear f a
    rintro i a wr ⟨f, hE, hi, hi2, hxy⟩
    refine wp_seq ?_
    refine reg_seq ?_
    refine s_move f (g_none rfl) rfl rfl ?_; clear f a; intro a f
    refine s_move f (g_none rfl) rfl rfl ?_; clear f a; intro a f
    refine t_len f (g_none rfl) rfl rfl Try.underlying32 rfl ?_; clear f a; intro a f
    refine s_bin f (g_none rfl) rfl rfl rfl rfl ?_; clear f a; intro a f
    refine s_move f (g_none rfl) rfl rfl ?_; clear f a; intro a f
    by_cases hc2 : ((i : Nat) : Int) < ((x.length : Nat) : Int)
    · skip
      have hb3 : (decide (((i : Nat) : Int) < ((x.length : Nat) : Int))) = true := decide_eq_true hc2
      rw [hb3] at f
      refine s_move f (g_yes f rfl rfl rfl) rfl rfl ?_; clear f a; intro a f
      refine s_move f (g_yes f rfl rfl rfl) rfl rfl ?_; clear f a; intro a f
      refine t_len f (g_yes f rfl rfl rfl) rfl rfl Try.underlying32 rfl ?_; clear f a; intro a f
      refine s_bin f (g_yes f rfl rfl rfl) rfl rfl rfl rfl ?_; clear f a; intro a f
      refine s_pick (r := .bool (decide (((i : Nat) : Int) < ((y.length : Nat) : Int)))) f (g_none rfl) rfl rfl rfl rfl rfl ?_; clear f a; intro a f
      refine nil_then ?_
      by_cases hc4 : ((i : Nat) : Int) < ((y.length : Nat) : Int)
      · skip
        have hb5 : (decide (((i : Nat) : Int) < ((y.length : Nat) : Int))) = true := decide_eq_true hc4
        rw [hb5] at f
        refine c_true f rfl ?_
        refine wp_skip ?_
        refine then_n ?_
        refine wp_seq ?_
        refine wp_block ?_
        refine quiet_seq (w := wr) mixed (by kernel_rfl) ?_
        refine q_move f (g_none rfl) rfl rfl ?_; clear f a; intro a f
        refine q_move f (g_none rfl) rfl rfl ?_; clear f a; intro a f
        refine u_indexAddr (j := i) (E := bytesE) f (g_none rfl) rfl Try.underlying32 ti5 rfl (hr0.ext hE) rfl rfl rfl (by omega) ?_; clear f a; intro a f
        refine u_load (j := i) (e := x.getD i 0) (E := bytesE) f (g_none rfl) rfl sc5 rfl (hr0.ext hE) rfl (getD_some (by omega)) rfl ?_; clear f a; intro a f
        refine q_move f (g_none rfl) rfl rfl ?_; clear f a; intro a f
        refine q_move f (g_none rfl) rfl rfl ?_; clear f a; intro a f
        refine u_indexAddr (j := i) (E := bytesE) f (g_none rfl) rfl Try.underlying32 ti5 rfl (hr1.ext hE) rfl rfl rfl (by omega) ?_; clear f a; intro a f
        refine u_load (j := i) (e := y.getD i 0) (E := bytesE) f (g_none rfl) rfl sc5 rfl (hr1.ext hE) rfl (getD_some (by omega)) rfl ?_; clear f a; intro a f
        refine q_bin (v := .bool (decide ((((x.getD i 0).toNat : Nat) : Int) ≠ (((y.getD i 0).toNat : Nat) : Int)))) f (g_none rfl) rfl rfl rfl arith_neq ?_; clear f a; intro a f
        refine quiet_nil ?_; intro w7 hx6
        replace hE := hE.tr hx6
        clear hx6
        by_cases hc8 : (((x.getD i 0).toNat : Nat) : Int) ≠ (((y.getD i 0).toNat : Nat) : Int)
        · skip
          have hb9 : (decide ((((x.getD i 0).toNat : Nat) : Int) ≠ (((y.getD i 0).toNat : Nat) : Int))) = true := decide_eq_true hc8
          rw [hb9] at f
          have hne := hc8
          refine c_true f rfl ?_
          refine quiet_seq (w := w7) mixed (by kernel_rfl) ?_
          refine q_move f (g_none rfl) rfl rfl ?_; clear f a; intro a f
          refine q_move f (g_none rfl) rfl rfl ?_; clear f a; intro a f
          refine u_indexAddr (j := i) (E := bytesE) f (g_none rfl) rfl Try.underlying32 ti5 rfl (hr0.ext hE) rfl rfl rfl (by omega) ?_; clear f a; intro a f
          refine u_load (j := i) (e := x.getD i 0) (E := bytesE) f (g_none rfl) rfl sc5 rfl (hr0.ext hE) rfl (getD_some (by omega)) rfl ?_; clear f a; intro a f
          refine q_move f (g_none rfl) rfl rfl ?_; clear f a; intro a f
          refine q_move f (g_none rfl) rfl rfl ?_; clear f a; intro a f
          refine u_indexAddr (j := i) (E := bytesE) f (g_none rfl) rfl Try.underlying32 ti5 rfl (hr1.ext hE) rfl rfl rfl (by omega) ?_; clear f a; intro a f
          refine u_load (j := i) (e := y.getD i 0) (E := bytesE) f (g_none rfl) rfl sc5 rfl (hr1.ext hE) rfl (getD_some (by omega)) rfl ?_; clear f a; intro a f
          refine q_bin f (g_none rfl) rfl rfl rfl rfl ?_; clear f a; intro a f
          refine q_assign f (g_none rfl) rfl rfl ?_; clear f a; intro a f
          refine quiet_nil ?_; intro w11 hx10
          replace hE := hE.tr hx10
          clear hx10
          refine wp_ret ?_
          refine blk_r ?_
          refine then_r ?_
          refine then_r ?_
          refine blk_r ?_
          refine then_r ?_
          refine retG (vs := [.bool (decide ((((x.getD i 0).toNat : Nat) : Int) < (((y.getD i 0).toNat : Nat) : Int)))]) f rfl ⟨rfl, trivial⟩ ?_
          exact ⟨congrArg Ending.returned ((congrArg Value.bool ((hxy.trans (bLt_diff (by omega) (by omega) (by omega))).symm))), hE⟩
        · skip
          have hb12 : (decide ((((x.getD i 0).toNat : Nat) : Int) ≠ (((y.getD i 0).toNat : Nat) : Int))) = false := decide_eq_false hc8
          rw [hb12] at f
          have hb : x.getD i 0 = y.getD i 0 := UInt8.toNat_inj.1 (by omega)
          refine c_false f rfl ?_
          refine wp_skip ?_
          refine blk_n ?_
          refine then_n ?_
          refine wp_region_lit ?_
          refine s_move f (g_none rfl) rfl rfl ?_; clear f a; intro a f
          refine s_bin f (g_none rfl) rfl rfl rfl (arith_add (r := ((i + 1 : Nat) : Int)) (wrap_i64 (by omega) (by omega))) ?_; clear f a; intro a f
          refine s_assign f (g_none rfl) rfl rfl ?_; clear f a; intro a f
          refine wpList_nil ?_
          refine then_n ?_
          refine ⟨(i + 1), ?_, ?_⟩
          · skip
            exact ⟨(Frm.pick f (Frm.pick f (Frm.pick f f.nil rfl) rfl) rfl), hE, (by omega), (by omega), (by rw [hxy]; exact bLt_step (by omega) (by omega) hb)⟩
          · show x.length - (i + 1) < x.length - i; omega
      · skip
        have hb13 : (decide (((i : Nat) : Int) < ((y.length : Nat) : Int))) = false := decide_eq_false hc4
        rw [hb13] at f
        refine c_false f rfl ?_
        refine wp_exit ?_
        refine then_e ?_
        refine then_e ?_
        refine blk_e ?_
        refine then_n ?_
        refine reg_seq ?_
        refine s_move f (g_none rfl) rfl rfl ?_; clear f a; intro a f
        refine t_len f (g_none rfl) rfl rfl Try.underlying32 rfl ?_; clear f a; intro a f
        refine s_move f (g_none rfl) rfl rfl ?_; clear f a; intro a f
        refine t_len f (g_none rfl) rfl rfl Try.underlying32 rfl ?_; clear f a; intro a f
        refine s_bin f (g_none rfl) rfl rfl rfl rfl ?_; clear f a; intro a f
        refine s_assign f (g_none rfl) rfl rfl ?_; clear f a; intro a f
        refine nil_then ?_
        refine wp_ret ?_
        refine retG (vs := [.bool (decide (((x.length : Nat) : Int) < ((y.length : Nat) : Int)))]) f rfl ⟨rfl, trivial⟩ ?_
        exact ⟨congrArg Ending.returned ((congrArg Value.bool ((hxy.trans (bLt_end (by omega) (by omega) (by omega))).symm))), hE⟩
    · skip
      have hb14 : (decide (((i : Nat) : Int) < ((x.length : Nat) : Int))) = false := decide_eq_false hc2
      rw [hb14] at f
      refine s_skip f (g_no f rfl rfl rfl) rfl ?_; clear f a; intro a f
      refine s_skip f (g_no f rfl rfl rfl) rfl ?_; clear f a; intro a f
      refine s_skip f (g_no f rfl rfl rfl) rfl ?_; clear f a; intro a f
      refine s_skip f (g_no f rfl rfl rfl) rfl ?_; clear f a; intro a f
      refine s_pick (r := .bool false) f (g_none rfl) rfl rfl rfl rfl rfl ?_; clear f a; intro a f
      refine nil_then ?_
      refine c_false f rfl ?_
      refine wp_exit ?_
      refine then_e ?_
      refine then_e ?_
      refine blk_e ?_
      refine then_n ?_
      refine reg_seq ?_
      refine s_move f (g_none rfl) rfl rfl ?_; clear f a; intro a f
      refine t_len f (g_none rfl) rfl rfl Try.underlying32 rfl ?_; clear f a; intro a f
      refine s_move f (g_none rfl) rfl rfl ?_; clear f a; intro a f
      refine t_len f (g_none rfl) rfl rfl Try.underlying32 rfl ?_; clear f a; intro a f
      refine s_bin f (g_none rfl) rfl rfl rfl rfl ?_; clear f a; intro a f
      refine s_assign f (g_none rfl) rfl rfl ?_; clear f a; intro a f
      refine nil_then ?_
      refine wp_ret ?_
      refine retG (vs := [.bool (decide (((x.length : Nat) : Int) < ((y.length : Nat) : Int)))]) f rfl ⟨rfl, trivial⟩ ?_
      exact ⟨congrArg Ending.returned ((congrArg Value.bool ((hxy.trans (bLt_end (by omega) (by omega) (by omega))).symm))), hE⟩

set_option maxRecDepth 100000 in
theorem lnumber_calls (n : Nat) (hn : n < 18446744073709551616) (p : Option Addr) (b : List UInt8) (c : Nat) (w : World) (hr1 : RdL bytesE w p c b) :
    Calls Try.prog 67 #[.int .u64 ((n : Nat) : Int), .slice p b.length c] w (fun e w' => e = .returned (.bool (decide (numBytes n = b))) ∧ Ext w w') := by
  have hle1 := hr1.le
  refine enter (n := 33) (l := [(0, .int .u64 ((n : Nat) : Int)), (1, .slice p b.length c)]) Try.func67 rfl rfl rfl rfl ?_; intro a f
  refine reg_seq ?_
  refine s_assign f (g_none rfl) rfl rfl ?_; clear f a; intro a f
  refine nil_then ?_
  refine reg_seq ?_
  refine s_move f (g_none rfl) rfl rfl ?_; clear f a; intro a f
  refine s_call f (g_none rfl) rfl Try.func26 rfl rfl (ev1 f rfl) (readn_calls (p := p) (b := b) (c := c) (w := _) (hr0 := hr1)) ?_
  rintro _ _ ⟨rfl, rfl⟩; refine ⟨_, rfl, ?_⟩; clear f a; intro a f
  refine s_move f (g_none rfl) rfl rfl ?_; clear f a; intro a f
  refine s_extract (v := .int .u64 (((readN b).1 : Nat) : Int)) f (g_none rfl) rfl rfl rfl ?_; clear f a; intro a f
  refine s_extract (v := .int .i64 (((readN b).2.1 : Nat) : Int)) f (g_none rfl) rfl rfl rfl ?_; clear f a; intro a f
  refine s_extract (v := .int .i64 (((readN b).2.2 : Nat) : Int)) f (g_none rfl) rfl rfl rfl ?_; clear f a; intro a f
  refine s_assign f (g_none rfl) rfl rfl ?_; clear f a; intro a f
  refine s_assign f (g_none rfl) rfl rfl ?_; clear f a; intro a f
  refine s_assign f (g_none rfl) rfl rfl ?_; clear f a; intro a f
  refine nil_then ?_
  refine reg_seq ?_
  refine s_move f (g_none rfl) rfl rfl ?_; clear f a; intro a f
  refine s_call f (g_none rfl) rfl Try.func31 rfl rfl (ev1 f rfl) (number_calls (n := n) (hn := (by omega)) (w := _) ) ?_
  rintro _ w2 ⟨p3, c4, rfl, hx5, ho6⟩; refine ⟨_, rfl, ?_⟩; clear f a; intro a f
  replace ho6 := ho6.mono (Nat.le_refl _)
  have hE := hx5; clear hx5
  refine s_move f (g_none rfl) rfl rfl ?_; clear f a; intro a f
  refine s_call f (g_none rfl) rfl Try.func30 rfl rfl (ev2 f rfl rfl) (same_calls (p := p3) (x := numBytes n) (c := c4) (q := p) (y := b) (d := c) (w := _) (hr0 := (ho6.rd)) (hr1 := (hr1.ext hE))) ?_
  rintro _ w7 ⟨rfl, hx8⟩; refine ⟨_, rfl, ?_⟩; clear f a; intro a f
  replace ho6 := ho6.ext hx8
  replace hE := hE.tr hx8
  clear hx8
  refine s_move f (g_none rfl) rfl rfl ?_; clear f a; intro a f
  by_cases hc9 : (numBytes n) = b
  · skip
    have hb10 : (decide ((numBytes n) = b)) = true := decide_eq_true hc9
    rw [hb10] at f
    have hb := hc9
    have hrd := readN_of hn hb
    refine s_move f (g_yes f rfl rfl rfl) rfl rfl ?_; clear f a; intro a f
    refine s_bin (v := .bool (decide ((((readN b).2.2 : Nat) : Int) = 0))) f (g_yes f rfl rfl rfl) rfl rfl rfl arith_eql ?_; clear f a; intro a f
    refine s_pick (r := .bool (decide ((((readN b).2.2 : Nat) : Int) = 0))) f (g_none rfl) rfl rfl rfl rfl rfl ?_; clear f a; intro a f
    refine s_move f (g_none rfl) rfl rfl ?_; clear f a; intro a f
    have hb11 : (decide ((((readN b).2.2 : Nat) : Int) = 0)) = true := decide_eq_true (by rw [hrd]; rfl)
    rw [hb11] at f
    refine s_move f (g_yes f rfl rfl rfl) rfl rfl ?_; clear f a; intro a f
    refine s_move f (g_yes f rfl rfl rfl) rfl rfl ?_; clear f a; intro a f
    refine s_bin (v := .bool (decide ((((readN b).1 : Nat) : Int) = ((n : Nat) : Int)))) f (g_yes f rfl rfl rfl) rfl rfl rfl arith_eql ?_; clear f a; intro a f
    refine s_pick (r := .bool (decide ((((readN b).1 : Nat) : Int) = ((n : Nat) : Int)))) f (g_none rfl) rfl rfl rfl rfl rfl ?_; clear f a; intro a f
    refine s_move f (g_none rfl) rfl rfl ?_; clear f a; intro a f
    have hb12 : (decide ((((readN b).1 : Nat) : Int) = ((n : Nat) : Int))) = true := decide_eq_true (by rw [hrd])
    rw [hb12] at f
    refine s_move f (g_yes f rfl rfl rfl) rfl rfl ?_; clear f a; intro a f
    refine s_move f (g_yes f rfl rfl rfl) rfl rfl ?_; clear f a; intro a f
    refine t_len f (g_yes f rfl rfl rfl) rfl rfl Try.underlying32 rfl ?_; clear f a; intro a f
    refine s_bin (v := .bool (decide ((((readN b).2.1 : Nat) : Int) = ((b.length : Nat) : Int)))) f (g_yes f rfl rfl rfl) rfl rfl rfl arith_eql ?_; clear f a; intro a f
    refine s_pick (r := .bool (decide ((((readN b).2.1 : Nat) : Int) = ((b.length : Nat) : Int)))) f (g_none rfl) rfl rfl rfl rfl rfl ?_; clear f a; intro a f
    refine s_assign f (g_none rfl) rfl rfl ?_; clear f a; intro a f
    refine nil_then ?_
    refine wp_ret ?_
    refine retG (vs := [.bool (decide ((((readN b).2.1 : Nat) : Int) = ((b.length : Nat) : Int)))]) f rfl ⟨rfl, trivial⟩ ?_
    exact ⟨congrArg Ending.returned ((congrArg Value.bool (decide_eq_decide.2 ⟨fun _ => hb, fun _ => by rw [hrd]⟩))), hE⟩
  · skip
    have hb13 : (decide ((numBytes n) = b)) = false := decide_eq_false hc9
    rw [hb13] at f
    have hb := hc9
    refine s_skip f (g_no f rfl rfl rfl) rfl ?_; clear f a; intro a f
    refine s_skip f (g_no f rfl rfl rfl) rfl ?_; clear f a; intro a f
    refine s_pick (r := .bool false) f (g_none rfl) rfl rfl rfl rfl rfl ?_; clear f a; intro a f
    refine s_move f (g_none rfl) rfl rfl ?_; clear f a; intro a f
    refine s_skip f (g_no f rfl rfl rfl) rfl ?_; clear f a; intro a f
    refine s_skip f (g_no f rfl rfl rfl) rfl ?_; clear f a; intro a f
    refine s_skip f (g_no f rfl rfl rfl) rfl ?_; clear f a; intro a f
    refine s_pick (r := .bool false) f (g_none rfl) rfl rfl rfl rfl rfl ?_; clear f a; intro a f
    refine s_move f (g_none rfl) rfl rfl ?_; clear f a; intro a f
    refine s_skip f (g_no f rfl rfl rfl) rfl ?_; clear f a; intro a f
    refine s_skip f (g_no f rfl rfl rfl) rfl ?_; clear f a; intro a f
    refine s_skip f (g_no f rfl rfl rfl) rfl ?_; clear f a; intro a f
    refine s_skip f (g_no f rfl rfl rfl) rfl ?_; clear f a; intro a f
    refine s_pick (r := .bool false) f (g_none rfl) rfl rfl rfl rfl rfl ?_; clear f a; intro a f
    refine s_assign f (g_none rfl) rfl rfl ?_; clear f a; intro a f
    refine nil_then ?_
    refine wp_ret ?_
    refine retG (vs := [.bool false]) f rfl ⟨rfl, trivial⟩ ?_
    exact ⟨congrArg Ending.returned ((congrArg Value.bool ((decide_eq_false hb).symm))), hE⟩

set_option maxRecDepth 100000 in
theorem lsigned_calls (m : Int) (h1 : -9223372036854775808 ≤ m) (h2 : m ≤ 9223372036854775807) (p : Option Addr) (b : List UInt8) (c : Nat) (w : World) (hr1 : RdL bytesE w p c b) :
    Calls Try.prog 68 #[.int .i64 m, .slice p b.length c] w (fun e w' => e = .returned (.bool (decide (numBytes (zig m) = b))) ∧ Ext w w') := by
  have hle1 := hr1.le
  refine enter (n := 33) (l := [(0, .int .i64 m), (1, .slice p b.length c)]) Try.func68 rfl rfl rfl rfl ?_; intro a f
  refine reg_seq ?_
  refine s_assign f (g_none rfl) rfl rfl ?_; clear f a; intro a f
  refine nil_then ?_
  refine reg_seq ?_
  refine s_move f (g_none rfl) rfl rfl ?_; clear f a; intro a f
  refine s_call f (g_none rfl) rfl Try.func28 rfl rfl (ev1 f rfl) (reads_calls (p := p) (b := b) (c := c) (w := _) (hr0 := hr1)) ?_
  rintro _ _ ⟨rfl, rfl⟩; refine ⟨_, rfl, ?_⟩; clear f a; intro a f
  refine s_move f (g_none rfl) rfl rfl ?_; clear f a; intro a f
  refine s_extract (v := .int .i64 ((readS b).1)) f (g_none rfl) rfl rfl rfl ?_; clear f a; intro a f
  refine s_extract (v := .int .i64 (((readS b).2.1 : Nat) : Int)) f (g_none rfl) rfl rfl rfl ?_; clear f a; intro a f
  refine s_extract (v := .int .i64 (((readS b).2.2 : Nat) : Int)) f (g_none rfl) rfl rfl rfl ?_; clear f a; intro a f
  refine s_assign f (g_none rfl) rfl rfl ?_; clear f a; intro a f
  refine s_assign f (g_none rfl) rfl rfl ?_; clear f a; intro a f
  refine s_assign f (g_none rfl) rfl rfl ?_; clear f a; intro a f
  refine nil_then ?_
  refine reg_seq ?_
  refine s_move f (g_none rfl) rfl rfl ?_; clear f a; intro a f
  refine s_call f (g_none rfl) rfl Try.func33 rfl rfl (ev1 f rfl) (signed_calls (m := m) (h1 := (by omega)) (h2 := (by omega)) (w := _) ) ?_
  rintro _ w2 ⟨p3, c4, rfl, hx5, ho6⟩; refine ⟨_, rfl, ?_⟩; clear f a; intro a f
  replace ho6 := ho6.mono (Nat.le_refl _)
  have hE := hx5; clear hx5
  refine s_move f (g_none rfl) rfl rfl ?_; clear f a; intro a f
  refine s_call f (g_none rfl) rfl Try.func30 rfl rfl (ev2 f rfl rfl) (same_calls (p := p3) (x := numBytes (zig m)) (c := c4) (q := p) (y := b) (d := c) (w := _) (hr0 := (ho6.rd)) (hr1 := (hr1.ext hE))) ?_
  rintro _ w7 ⟨rfl, hx8⟩; refine ⟨_, rfl, ?_⟩; clear f a; intro a f
  replace ho6 := ho6.ext hx8
  replace hE := hE.tr hx8
  clear hx8
  refine s_move f (g_none rfl) rfl rfl ?_; clear f a; intro a f
  by_cases hc9 : (numBytes (zig m)) = b
  · skip
    have hb10 : (decide ((numBytes (zig m)) = b)) = true := decide_eq_true hc9
    rw [hb10] at f
    have hb := hc9
    have hrd := readN_of (zig_lt h1 h2) hb
    have hrs : readS b = (m, b.length, 0) := by rw [readS_ok (by rw [hrd]), hrd, unzig_zig]
    refine s_move f (g_yes f rfl rfl rfl) rfl rfl ?_; clear f a; intro a f
    refine s_bin (v := .bool (decide ((((readS b).2.2 : Nat) : Int) = 0))) f (g_yes f rfl rfl rfl) rfl rfl rfl arith_eql ?_; clear f a; intro a f
    refine s_pick (r := .bool (decide ((((readS b).2.2 : Nat) : Int) = 0))) f (g_none rfl) rfl rfl rfl rfl rfl ?_; clear f a; intro a f
    refine s_move f (g_none rfl) rfl rfl ?_; clear f a; intro a f
    have hb11 : (decide ((((readS b).2.2 : Nat) : Int) = 0)) = true := decide_eq_true (by rw [hrs]; rfl)
    rw [hb11] at f
    refine s_move f (g_yes f rfl rfl rfl) rfl rfl ?_; clear f a; intro a f
    refine s_move f (g_yes f rfl rfl rfl) rfl rfl ?_; clear f a; intro a f
    refine s_bin (v := .bool (decide ((readS b).1 = m))) f (g_yes f rfl rfl rfl) rfl rfl rfl arith_eql ?_; clear f a; intro a f
    refine s_pick (r := .bool (decide ((readS b).1 = m))) f (g_none rfl) rfl rfl rfl rfl rfl ?_; clear f a; intro a f
    refine s_move f (g_none rfl) rfl rfl ?_; clear f a; intro a f
    have hb12 : (decide ((readS b).1 = m)) = true := decide_eq_true (by rw [hrs])
    rw [hb12] at f
    refine s_move f (g_yes f rfl rfl rfl) rfl rfl ?_; clear f a; intro a f
    refine s_move f (g_yes f rfl rfl rfl) rfl rfl ?_; clear f a; intro a f
    refine t_len f (g_yes f rfl rfl rfl) rfl rfl Try.underlying32 rfl ?_; clear f a; intro a f
    refine s_bin (v := .bool (decide ((((readS b).2.1 : Nat) : Int) = ((b.length : Nat) : Int)))) f (g_yes f rfl rfl rfl) rfl rfl rfl arith_eql ?_; clear f a; intro a f
    refine s_pick (r := .bool (decide ((((readS b).2.1 : Nat) : Int) = ((b.length : Nat) : Int)))) f (g_none rfl) rfl rfl rfl rfl rfl ?_; clear f a; intro a f
    refine s_assign f (g_none rfl) rfl rfl ?_; clear f a; intro a f
    refine nil_then ?_
    refine wp_ret ?_
    refine retG (vs := [.bool (decide ((((readS b).2.1 : Nat) : Int) = ((b.length : Nat) : Int)))]) f rfl ⟨rfl, trivial⟩ ?_
    exact ⟨congrArg Ending.returned ((congrArg Value.bool (decide_eq_decide.2 ⟨fun _ => hb, fun _ => by rw [hrs]⟩))), hE⟩
  · skip
    have hb13 : (decide ((numBytes (zig m)) = b)) = false := decide_eq_false hc9
    rw [hb13] at f
    have hb := hc9
    refine s_skip f (g_no f rfl rfl rfl) rfl ?_; clear f a; intro a f
    refine s_skip f (g_no f rfl rfl rfl) rfl ?_; clear f a; intro a f
    refine s_pick (r := .bool false) f (g_none rfl) rfl rfl rfl rfl rfl ?_; clear f a; intro a f
    refine s_move f (g_none rfl) rfl rfl ?_; clear f a; intro a f
    refine s_skip f (g_no f rfl rfl rfl) rfl ?_; clear f a; intro a f
    refine s_skip f (g_no f rfl rfl rfl) rfl ?_; clear f a; intro a f
    refine s_skip f (g_no f rfl rfl rfl) rfl ?_; clear f a; intro a f
    refine s_pick (r := .bool false) f (g_none rfl) rfl rfl rfl rfl rfl ?_; clear f a; intro a f
    refine s_move f (g_none rfl) rfl rfl ?_; clear f a; intro a f
    refine s_skip f (g_no f rfl rfl rfl) rfl ?_; clear f a; intro a f
    refine s_skip f (g_no f rfl rfl rfl) rfl ?_; clear f a; intro a f
    refine s_skip f (g_no f rfl rfl rfl) rfl ?_; clear f a; intro a f
    refine s_skip f (g_no f rfl rfl rfl) rfl ?_; clear f a; intro a f
    refine s_pick (r := .bool false) f (g_none rfl) rfl rfl rfl rfl rfl ?_; clear f a; intro a f
    refine s_assign f (g_none rfl) rfl rfl ?_; clear f a; intro a f
    refine nil_then ?_
    refine wp_ret ?_
    refine retG (vs := [.bool false]) f rfl ⟨rfl, trivial⟩ ?_
    exact ⟨congrArg Ending.returned ((congrArg Value.bool ((decide_eq_false hb).symm))), hE⟩

set_option maxRecDepth 100000 in
theorem lrefused_calls (p : Option Addr) (b : List UInt8) (c : Nat) (hn : readNum b = none) (w : World) (hr0 : RdL bytesE w p c b) :
    Calls Try.prog 69 #[.slice p b.length c] w (fun e w' => e = .returned (.bool true) ∧ Ext w w') := by
  have hrd := readN_none hn
  have hrs : readS b = (0, 0, 12) := by rw [readS_no (by rw [hrd]; decide), hrd]
  have hle0 := hr0.le
  refine enter (n := 35) (l := [(0, .slice p b.length c)]) Try.func69 rfl rfl rfl rfl ?_; intro a f
  refine reg_seq ?_
  refine s_assign f (g_none rfl) rfl rfl ?_; clear f a; intro a f
  refine nil_then ?_
  refine reg_seq ?_
  refine s_move f (g_none rfl) rfl rfl ?_; clear f a; intro a f
  refine s_call f (g_none rfl) rfl Try.func26 rfl rfl (ev1 f rfl) (readn_calls (p := p) (b := b) (c := c) (w := _) (hr0 := hr0)) ?_
  rintro _ _ ⟨rfl, rfl⟩; refine ⟨_, rfl, ?_⟩; clear f a; intro a f
  refine s_move f (g_none rfl) rfl rfl ?_; clear f a; intro a f
  refine s_extract (v := .int .u64 (((readN b).1 : Nat) : Int)) f (g_none rfl) rfl rfl rfl ?_; clear f a; intro a f
  refine s_extract (v := .int .i64 (((readN b).2.1 : Nat) : Int)) f (g_none rfl) rfl rfl rfl ?_; clear f a; intro a f
  refine s_extract (v := .int .i64 (((readN b).2.2 : Nat) : Int)) f (g_none rfl) rfl rfl rfl ?_; clear f a; intro a f
  refine s_assign f (g_none rfl) rfl rfl ?_; clear f a; intro a f
  refine s_assign f (g_none rfl) rfl rfl ?_; clear f a; intro a f
  refine s_assign f (g_none rfl) rfl rfl ?_; clear f a; intro a f
  refine nil_then ?_
  refine reg_seq ?_
  refine s_move f (g_none rfl) rfl rfl ?_; clear f a; intro a f
  refine s_call f (g_none rfl) rfl Try.func28 rfl rfl (ev1 f rfl) (reads_calls (p := p) (b := b) (c := c) (w := _) (hr0 := hr0)) ?_
  rintro _ _ ⟨rfl, rfl⟩; refine ⟨_, rfl, ?_⟩; clear f a; intro a f
  refine s_move f (g_none rfl) rfl rfl ?_; clear f a; intro a f
  refine s_extract (v := .int .i64 ((readS b).1)) f (g_none rfl) rfl rfl rfl ?_; clear f a; intro a f
  refine s_extract (v := .int .i64 (((readS b).2.1 : Nat) : Int)) f (g_none rfl) rfl rfl rfl ?_; clear f a; intro a f
  refine s_extract (v := .int .i64 (((readS b).2.2 : Nat) : Int)) f (g_none rfl) rfl rfl rfl ?_; clear f a; intro a f
  refine s_assign f (g_none rfl) rfl rfl ?_; clear f a; intro a f
  refine s_assign f (g_none rfl) rfl rfl ?_; clear f a; intro a f
  refine s_assign f (g_none rfl) rfl rfl ?_; clear f a; intro a f
  refine nil_then ?_
  refine reg_seq ?_
  refine s_move f (g_none rfl) rfl rfl ?_; clear f a; intro a f
  refine s_bin (v := .bool (decide ((((readN b).2.2 : Nat) : Int) = 12))) f (g_none rfl) rfl rfl rfl arith_eql ?_; clear f a; intro a f
  refine s_move f (g_none rfl) rfl rfl ?_; clear f a; intro a f
  have hb3 : (decide ((((readN b).2.2 : Nat) : Int) = 12)) = true := decide_eq_true (by rw [hrd]; rfl)
  rw [hb3] at f
  refine s_move f (g_yes f rfl rfl rfl) rfl rfl ?_; clear f a; intro a f
  refine s_bin (v := .bool (decide ((((readN b).2.1 : Nat) : Int) = 0))) f (g_yes f rfl rfl rfl) rfl rfl rfl arith_eql ?_; clear f a; intro a f
  refine s_pick (r := .bool (decide ((((readN b).2.1 : Nat) : Int) = 0))) f (g_none rfl) rfl rfl rfl rfl rfl ?_; clear f a; intro a f
  refine s_move f (g_none rfl) rfl rfl ?_; clear f a; intro a f
  have hb4 : (decide ((((readN b).2.1 : Nat) : Int) = 0)) = true := decide_eq_true (by rw [hrd]; rfl)
  rw [hb4] at f
  refine s_move f (g_yes f rfl rfl rfl) rfl rfl ?_; clear f a; intro a f
  refine s_bin (v := .bool (decide ((((readS b).2.2 : Nat) : Int) = 12))) f (g_yes f rfl rfl rfl) rfl rfl rfl arith_eql ?_; clear f a; intro a f
  refine s_pick (r := .bool (decide ((((readS b).2.2 : Nat) : Int) = 12))) f (g_none rfl) rfl rfl rfl rfl rfl ?_; clear f a; intro a f
  refine s_move f (g_none rfl) rfl rfl ?_; clear f a; intro a f
  have hb5 : (decide ((((readS b).2.2 : Nat) : Int) = 12)) = true := decide_eq_true (by rw [hrs]; rfl)
  rw [hb5] at f
  refine s_move f (g_yes f rfl rfl rfl) rfl rfl ?_; clear f a; intro a f
  refine s_bin (v := .bool (decide ((((readS b).2.1 : Nat) : Int) = 0))) f (g_yes f rfl rfl rfl) rfl rfl rfl arith_eql ?_; clear f a; intro a f
  refine s_pick (r := .bool (decide ((((readS b).2.1 : Nat) : Int) = 0))) f (g_none rfl) rfl rfl rfl rfl rfl ?_; clear f a; intro a f
  refine s_assign f (g_none rfl) rfl rfl ?_; clear f a; intro a f
  refine nil_then ?_
  refine wp_ret ?_
  refine retG (vs := [.bool (decide ((((readS b).2.1 : Nat) : Int) = 0))]) f rfl ⟨rfl, trivial⟩ ?_
  exact ⟨congrArg Ending.returned ((congrArg Value.bool (decide_eq_true (by rw [hrs]; rfl)))), Ext.rfl'⟩

set_option maxRecDepth 100000 in
theorem alive_calls  (w : World)  :
    Calls Try.prog 36 #[] w (fun e w' => e = .returned (.bool true) ∧ Ext w w') := by
  refine enter (n := 48) (l := []) Try.func36 rfl rfl rfl rfl ?_; intro a f
  refine reg_seq ?_
  refine s_assign f (g_none rfl) rfl rfl ?_; clear f a; intro a f
  refine nil_then ?_
  refine reg_seq ?_
  refine t_lit (E := bytesE) (l := ([97, 98] : List UInt8)) (B := w.heap.size) f (g_none rfl) rfl Try.underlying32 ti5 rfl (pt2 f rfl rfl) (by decide) (fill_lit [.int .u8 (97), .int .u8 (98)] rfl rfl (by simp [Value.cells])) rfl rfl (Nat.le_refl _) ?_; clear f a; intro a w6 p1 c2 f hx4 ho3 hn5
  have hE := hx4; clear hx4
  clear hn5
  refine t_convSame f (g_none rfl) rfl Try.underlying32 Try.underlying5 rfl ho3 (ho3.ne_none (by simp)) ?_; clear f a; intro a w9 f hg7 hr8
  replace hE := hE.gr hg7 (fun b e => (ho3.lt e).1)
  clear hg7
  clear ho3
  refine s_call f (g_none rfl) rfl Try.func47 rfl rfl (ev1 f rfl) (wbytes_calls (p := p1) (b := ([97, 98] : List UInt8)) (c := c2) (w := _) (hr0 := hr8)) ?_
  rintro _ w10 ⟨q11, d12, rfl, hx13, ho14⟩; refine ⟨_, rfl, ?_⟩; clear f a; intro a f
  replace ho14 := ho14.mono (hE.size)
  replace hr8 := hr8.ext hx13
  replace hE := hE.tr hx13
  clear hx13
  refine s_move f (g_none rfl) rfl rfl ?_; clear f a; intro a f
  refine s_extract (v := .slice q11 ((bytesOf ([97, 98] : List UInt8)).1).length d12) f (g_none rfl) rfl rfl rfl ?_; clear f a; intro a f
  refine s_extract (v := .int .i64 (((bytesOf ([97, 98] : List UInt8)).2 : Nat) : Int)) f (g_none rfl) rfl rfl rfl ?_; clear f a; intro a f
  refine s_assign f (g_none rfl) rfl rfl ?_; clear f a; intro a f
  refine s_assign f (g_none rfl) rfl rfl ?_; clear f a; intro a f
  refine nil_then ?_
  refine reg_seq ?_
  refine t_lit (E := bytesE) (l := ([247] : List UInt8)) (B := w.heap.size) f (g_none rfl) rfl Try.underlying32 ti5 rfl (pt1 f rfl) (by decide) (fill_lit [.int .u8 (247)] rfl rfl (by simp [Value.cells])) rfl rfl (hE.size) ?_; clear f a; intro a w21 p16 c17 f hx19 ho18 hn20
  have hs23 : ∀ b, sblk p16 = some b → sblk q11 ≠ some b := fun b e1 e2 => by have h1 := hn20 _ e1; have h2 := (ho14.lt e2).2; omega
  replace hr8 := hr8.ext hx19
  replace ho14 := ho14.ext hx19
  replace hE := hE.tr hx19
  clear hx19
  clear hn20
  refine s_call f (g_none rfl) rfl Try.func67 rfl rfl (ev2 f rfl rfl) (lnumber_calls (n := 247) (hn := (by omega)) (p := p16) (b := ([247] : List UInt8)) (c := c17) (w := _) (hr1 := (ho18.rd))) ?_
  rintro _ w24 ⟨rfl, hx25⟩; refine ⟨_, rfl, ?_⟩; clear f a; intro a f
  replace hr8 := hr8.ext hx25
  replace ho14 := ho14.ext hx25
  replace ho18 := ho18.ext hx25
  replace hE := hE.tr hx25
  clear hx25
  refine s_move f (g_none rfl) rfl rfl ?_; clear f a; intro a f
  have hb26 : (decide (numBytes 247 = ([247] : List UInt8))) = true := decide_eq_true (by exact nb247)
  rw [hb26] at f
  refine t_lit (E := bytesE) (l := ([248, 248] : List UInt8)) (B := w.heap.size) f (g_yes f rfl rfl rfl) rfl Try.underlying32 ti5 rfl (pt2 f rfl rfl) (by decide) (fill_lit [.int .u8 (248), .int .u8 (248)] rfl rfl (by simp [Value.cells])) rfl rfl (hE.size) ?_; clear f a; intro a w32 p27 c28 f hx30 ho29 hn31
  have hs34 : ∀ b, sblk p27 = some b → sblk q11 ≠ some b := fun b e1 e2 => by have h1 := hn31 _ e1; have h2 := (ho14.lt e2).2; omega
  have hs35 : ∀ b, sblk p27 = some b → sblk p16 ≠ some b := fun b e1 e2 => by have h1 := hn31 _ e1; have h2 := (ho18.lt e2).2; omega
  replace hr8 := hr8.ext hx30
  replace ho14 := ho14.ext hx30
  replace ho18 := ho18.ext hx30
  replace hE := hE.tr hx30
  clear hx30
  clear hn31
  refine s_call f (g_yes f rfl rfl rfl) rfl Try.func67 rfl rfl (ev2 f rfl rfl) (lnumber_calls (n := 248) (hn := (by omega)) (p := p27) (b := ([248, 248] : List UInt8)) (c := c28) (w := _) (hr1 := (ho29.rd))) ?_
  rintro _ w36 ⟨rfl, hx37⟩; refine ⟨_, rfl, ?_⟩; clear f a; intro a f
  replace hr8 := hr8.ext hx37
  replace ho14 := ho14.ext hx37
  replace ho18 := ho18.ext hx37
  replace ho29 := ho29.ext hx37
  replace hE := hE.tr hx37
  clear hx37
  refine s_pick (r := .bool (decide (numBytes 248 = ([248, 248] : List UInt8)))) f (g_none rfl) rfl rfl rfl rfl rfl ?_; clear f a; intro a f
  refine s_move f (g_none rfl) rfl rfl ?_; clear f a; intro a f
  have hb38 : (decide (numBytes 248 = ([248, 248] : List UInt8))) = true := decide_eq_true (by exact nb248)
  rw [hb38] at f
  refine t_lit (E := bytesE) (l := ([249, 1, 0] : List UInt8)) (B := w.heap.size) f (g_yes f rfl rfl rfl) rfl Try.underlying32 ti5 rfl (pt3 f rfl rfl rfl) (by decide) (fill_lit [.int .u8 (249), .int .u8 (1), .int .u8 (0)] rfl rfl (by simp [Value.cells])) rfl rfl (hE.size) ?_; clear f a; intro a w44 p39 c40 f hx42 ho41 hn43
  have hs46 : ∀ b, sblk p39 = some b → sblk q11 ≠ some b := fun b e1 e2 => by have h1 := hn43 _ e1; have h2 := (ho14.lt e2).2; omega
  have hs47 : ∀ b, sblk p39 = some b → sblk p16 ≠ some b := fun b e1 e2 => by have h1 := hn43 _ e1; have h2 := (ho18.lt e2).2; omega
  have hs48 : ∀ b, sblk p39 = some b → sblk p27 ≠ some b := fun b e1 e2 => by have h1 := hn43 _ e1; have h2 := (ho29.lt e2).2; omega
  replace hr8 := hr8.ext hx42
  replace ho14 := ho14.ext hx42
  replace ho18 := ho18.ext hx42
  replace ho29 := ho29.ext hx42
  replace hE := hE.tr hx42
  clear hx42
  clear hn43
  refine s_call f (g_yes f rfl rfl rfl) rfl Try.func67 rfl rfl (ev2 f rfl rfl) (lnumber_calls (n := 256) (hn := (by omega)) (p := p39) (b := ([249, 1, 0] : List UInt8)) (c := c40) (w := _) (hr1 := (ho41.rd))) ?_
  rintro _ w49 ⟨rfl, hx50⟩; refine ⟨_, rfl, ?_⟩; clear f a; intro a f
  replace hr8 := hr8.ext hx50
  replace ho14 := ho14.ext hx50
  replace ho18 := ho18.ext hx50
  replace ho29 := ho29.ext hx50
  replace ho41 := ho41.ext hx50
  replace hE := hE.tr hx50
  clear hx50
  refine s_pick (r := .bool (decide (numBytes 256 = ([249, 1, 0] : List UInt8)))) f (g_none rfl) rfl rfl rfl rfl rfl ?_; clear f a; intro a f
  refine s_move f (g_none rfl) rfl rfl ?_; clear f a; intro a f
  have hb51 : (decide (numBytes 256 = ([249, 1, 0] : List UInt8))) = true := decide_eq_true (by exact nb256)
  rw [hb51] at f
  refine t_lit (E := bytesE) (l := ([255, 255, 255, 255, 255, 255, 255, 255, 255] : List UInt8)) (B := w.heap.size) f (g_yes f rfl rfl rfl) rfl Try.underlying32 ti5 rfl (pt9 f rfl rfl rfl rfl rfl rfl rfl rfl rfl) (by decide) (fill_lit [.int .u8 (255), .int .u8 (255), .int .u8 (255), .int .u8 (255), .int .u8 (255), .int .u8 (255), .int .u8 (255), .int .u8 (255), .int .u8 (255)] rfl rfl (by simp [Value.cells])) rfl rfl (hE.size) ?_; clear f a; intro a w57 p52 c53 f hx55 ho54 hn56
  have hs59 : ∀ b, sblk p52 = some b → sblk q11 ≠ some b := fun b e1 e2 => by have h1 := hn56 _ e1; have h2 := (ho14.lt e2).2; omega
  have hs60 : ∀ b, sblk p52 = some b → sblk p16 ≠ some b := fun b e1 e2 => by have h1 := hn56 _ e1; have h2 := (ho18.lt e2).2; omega
  have hs61 : ∀ b, sblk p52 = some b → sblk p27 ≠ some b := fun b e1 e2 => by have h1 := hn56 _ e1; have h2 := (ho29.lt e2).2; omega
  have hs62 : ∀ b, sblk p52 = some b → sblk p39 ≠ some b := fun b e1 e2 => by have h1 := hn56 _ e1; have h2 := (ho41.lt e2).2; omega
  replace hr8 := hr8.ext hx55
  replace ho14 := ho14.ext hx55
  replace ho18 := ho18.ext hx55
  replace ho29 := ho29.ext hx55
  replace ho41 := ho41.ext hx55
  replace hE := hE.tr hx55
  clear hx55
  clear hn56
  refine s_call f (g_yes f rfl rfl rfl) rfl Try.func67 rfl rfl (ev2 f rfl rfl) (lnumber_calls (n := 18446744073709551615) (hn := (by omega)) (p := p52) (b := ([255, 255, 255, 255, 255, 255, 255, 255, 255] : List UInt8)) (c := c53) (w := _) (hr1 := (ho54.rd))) ?_
  rintro _ w63 ⟨rfl, hx64⟩; refine ⟨_, rfl, ?_⟩; clear f a; intro a f
  replace hr8 := hr8.ext hx64
  replace ho14 := ho14.ext hx64
  replace ho18 := ho18.ext hx64
  replace ho29 := ho29.ext hx64
  replace ho41 := ho41.ext hx64
  replace ho54 := ho54.ext hx64
  replace hE := hE.tr hx64
  clear hx64
  refine s_pick (r := .bool (decide (numBytes 18446744073709551615 = ([255, 255, 255, 255, 255, 255, 255, 255, 255] : List UInt8)))) f (g_none rfl) rfl rfl rfl rfl rfl ?_; clear f a; intro a f
  refine s_move f (g_none rfl) rfl rfl ?_; clear f a; intro a f
  have hb65 : (decide (numBytes 18446744073709551615 = ([255, 255, 255, 255, 255, 255, 255, 255, 255] : List UInt8))) = true := decide_eq_true (by exact nbmax)
  rw [hb65] at f
  refine t_lit (E := bytesE) (l := ([1] : List UInt8)) (B := w.heap.size) f (g_yes f rfl rfl rfl) rfl Try.underlying32 ti5 rfl (pt1 f rfl) (by decide) (fill_lit [.int .u8 (1)] rfl rfl (by simp [Value.cells])) rfl rfl (hE.size) ?_; clear f a; intro a w71 p66 c67 f hx69 ho68 hn70
  have hs73 : ∀ b, sblk p66 = some b → sblk q11 ≠ some b := fun b e1 e2 => by have h1 := hn70 _ e1; have h2 := (ho14.lt e2).2; omega
  have hs74 : ∀ b, sblk p66 = some b → sblk p16 ≠ some b := fun b e1 e2 => by have h1 := hn70 _ e1; have h2 := (ho18.lt e2).2; omega
  have hs75 : ∀ b, sblk p66 = some b → sblk p27 ≠ some b := fun b e1 e2 => by have h1 := hn70 _ e1; have h2 := (ho29.lt e2).2; omega
  have hs76 : ∀ b, sblk p66 = some b → sblk p39 ≠ some b := fun b e1 e2 => by have h1 := hn70 _ e1; have h2 := (ho41.lt e2).2; omega
  have hs77 : ∀ b, sblk p66 = some b → sblk p52 ≠ some b := fun b e1 e2 => by have h1 := hn70 _ e1; have h2 := (ho54.lt e2).2; omega
  replace hr8 := hr8.ext hx69
  replace ho14 := ho14.ext hx69
  replace ho18 := ho18.ext hx69
  replace ho29 := ho29.ext hx69
  replace ho41 := ho41.ext hx69
  replace ho54 := ho54.ext hx69
  replace hE := hE.tr hx69
  clear hx69
  clear hn70
  refine s_call f (g_yes f rfl rfl rfl) rfl Try.func68 rfl rfl (ev2 f rfl rfl) (lsigned_calls (m := -1) (h1 := (by omega)) (h2 := (by omega)) (p := p66) (b := ([1] : List UInt8)) (c := c67) (w := _) (hr1 := (ho68.rd))) ?_
  rintro _ w78 ⟨rfl, hx79⟩; refine ⟨_, rfl, ?_⟩; clear f a; intro a f
  replace hr8 := hr8.ext hx79
  replace ho14 := ho14.ext hx79
  replace ho18 := ho18.ext hx79
  replace ho29 := ho29.ext hx79
  replace ho41 := ho41.ext hx79
  replace ho54 := ho54.ext hx79
  replace ho68 := ho68.ext hx79
  replace hE := hE.tr hx79
  clear hx79
  refine s_pick (r := .bool (decide (numBytes (zig (-1)) = ([1] : List UInt8)))) f (g_none rfl) rfl rfl rfl rfl rfl ?_; clear f a; intro a f
  refine s_move f (g_none rfl) rfl rfl ?_; clear f a; intro a f
  have hb80 : (decide (numBytes (zig (-1)) = ([1] : List UInt8))) = true := decide_eq_true (by exact nb1)
  rw [hb80] at f
  refine t_lit (E := bytesE) (l := ([247] : List UInt8)) (B := w.heap.size) f (g_yes f rfl rfl rfl) rfl Try.underlying32 ti5 rfl (pt1 f rfl) (by decide) (fill_lit [.int .u8 (247)] rfl rfl (by simp [Value.cells])) rfl rfl (hE.size) ?_; clear f a; intro a w86 p81 c82 f hx84 ho83 hn85
  have hs88 : ∀ b, sblk p81 = some b → sblk q11 ≠ some b := fun b e1 e2 => by have h1 := hn85 _ e1; have h2 := (ho14.lt e2).2; omega
  have hs89 : ∀ b, sblk p81 = some b → sblk p16 ≠ some b := fun b e1 e2 => by have h1 := hn85 _ e1; have h2 := (ho18.lt e2).2; omega
  have hs90 : ∀ b, sblk p81 = some b → sblk p27 ≠ some b := fun b e1 e2 => by have h1 := hn85 _ e1; have h2 := (ho29.lt e2).2; omega
  have hs91 : ∀ b, sblk p81 = some b → sblk p39 ≠ some b := fun b e1 e2 => by have h1 := hn85 _ e1; have h2 := (ho41.lt e2).2; omega
  have hs92 : ∀ b, sblk p81 = some b → sblk p52 ≠ some b := fun b e1 e2 => by have h1 := hn85 _ e1; have h2 := (ho54.lt e2).2; omega
  have hs93 : ∀ b, sblk p81 = some b → sblk p66 ≠ some b := fun b e1 e2 => by have h1 := hn85 _ e1; have h2 := (ho68.lt e2).2; omega
  replace hr8 := hr8.ext hx84
  replace ho14 := ho14.ext hx84
  replace ho18 := ho18.ext hx84
  replace ho29 := ho29.ext hx84
  replace ho41 := ho41.ext hx84
  replace ho54 := ho54.ext hx84
  replace ho68 := ho68.ext hx84
  replace hE := hE.tr hx84
  clear hx84
  clear hn85
  refine s_call f (g_yes f rfl rfl rfl) rfl Try.func68 rfl rfl (ev2 f rfl rfl) (lsigned_calls (m := -124) (h1 := (by omega)) (h2 := (by omega)) (p := p81) (b := ([247] : List UInt8)) (c := c82) (w := _) (hr1 := (ho83.rd))) ?_
  rintro _ w94 ⟨rfl, hx95⟩; refine ⟨_, rfl, ?_⟩; clear f a; intro a f
  replace hr8 := hr8.ext hx95
  replace ho14 := ho14.ext hx95
  replace ho18 := ho18.ext hx95
  replace ho29 := ho29.ext hx95
  replace ho41 := ho41.ext hx95
  replace ho54 := ho54.ext hx95
  replace ho68 := ho68.ext hx95
  replace ho83 := ho83.ext hx95
  replace hE := hE.tr hx95
  clear hx95
  refine s_pick (r := .bool (decide (numBytes (zig (-124)) = ([247] : List UInt8)))) f (g_none rfl) rfl rfl rfl rfl rfl ?_; clear f a; intro a f
  refine s_move f (g_none rfl) rfl rfl ?_; clear f a; intro a f
  have hb96 : (decide (numBytes (zig (-124)) = ([247] : List UInt8))) = true := decide_eq_true (by exact nb124)
  rw [hb96] at f
  refine t_lit (E := bytesE) (l := ([248, 247] : List UInt8)) (B := w.heap.size) f (g_yes f rfl rfl rfl) rfl Try.underlying32 ti5 rfl (pt2 f rfl rfl) (by decide) (fill_lit [.int .u8 (248), .int .u8 (247)] rfl rfl (by simp [Value.cells])) rfl rfl (hE.size) ?_; clear f a; intro a w102 p97 c98 f hx100 ho99 hn101
  have hs104 : ∀ b, sblk p97 = some b → sblk q11 ≠ some b := fun b e1 e2 => by have h1 := hn101 _ e1; have h2 := (ho14.lt e2).2; omega
  have hs105 : ∀ b, sblk p97 = some b → sblk p16 ≠ some b := fun b e1 e2 => by have h1 := hn101 _ e1; have h2 := (ho18.lt e2).2; omega
  have hs106 : ∀ b, sblk p97 = some b → sblk p27 ≠ some b := fun b e1 e2 => by have h1 := hn101 _ e1; have h2 := (ho29.lt e2).2; omega
  have hs107 : ∀ b, sblk p97 = some b → sblk p39 ≠ some b := fun b e1 e2 => by have h1 := hn101 _ e1; have h2 := (ho41.lt e2).2; omega
  have hs108 : ∀ b, sblk p97 = some b → sblk p52 ≠ some b := fun b e1 e2 => by have h1 := hn101 _ e1; have h2 := (ho54.lt e2).2; omega
  have hs109 : ∀ b, sblk p97 = some b → sblk p66 ≠ some b := fun b e1 e2 => by have h1 := hn101 _ e1; have h2 := (ho68.lt e2).2; omega
  have hs110 : ∀ b, sblk p97 = some b → sblk p81 ≠ some b := fun b e1 e2 => by have h1 := hn101 _ e1; have h2 := (ho83.lt e2).2; omega
  replace hr8 := hr8.ext hx100
  replace ho14 := ho14.ext hx100
  replace ho18 := ho18.ext hx100
  replace ho29 := ho29.ext hx100
  replace ho41 := ho41.ext hx100
  replace ho54 := ho54.ext hx100
  replace ho68 := ho68.ext hx100
  replace ho83 := ho83.ext hx100
  replace hE := hE.tr hx100
  clear hx100
  clear hn101
  refine s_call f (g_yes f rfl rfl rfl) rfl Try.func69 rfl rfl (ev1 f rfl) (lrefused_calls (p := p97) (b := ([248, 247] : List UInt8)) (c := c98) (hn := rn_248_247) (w := _) (hr0 := (ho99.rd))) ?_
  rintro _ w111 ⟨rfl, hx112⟩; refine ⟨_, rfl, ?_⟩; clear f a; intro a f
  replace hr8 := hr8.ext hx112
  replace ho14 := ho14.ext hx112
  replace ho18 := ho18.ext hx112
  replace ho29 := ho29.ext hx112
  replace ho41 := ho41.ext hx112
  replace ho54 := ho54.ext hx112
  replace ho68 := ho68.ext hx112
  replace ho83 := ho83.ext hx112
  replace ho99 := ho99.ext hx112
  replace hE := hE.tr hx112
  clear hx112
  refine s_pick (r := .bool true) f (g_none rfl) rfl rfl rfl rfl rfl ?_; clear f a; intro a f
  refine s_move f (g_none rfl) rfl rfl ?_; clear f a; intro a f
  refine t_lit (E := bytesE) (l := ([249, 0, 255] : List UInt8)) (B := w.heap.size) f (g_yes f rfl rfl rfl) rfl Try.underlying32 ti5 rfl (pt3 f rfl rfl rfl) (by decide) (fill_lit [.int .u8 (249), .int .u8 (0), .int .u8 (255)] rfl rfl (by simp [Value.cells])) rfl rfl (hE.size) ?_; clear f a; intro a w118 p113 c114 f hx116 ho115 hn117
  have hs120 : ∀ b, sblk p113 = some b → sblk q11 ≠ some b := fun b e1 e2 => by have h1 := hn117 _ e1; have h2 := (ho14.lt e2).2; omega
  have hs121 : ∀ b, sblk p113 = some b → sblk p16 ≠ some b := fun b e1 e2 => by have h1 := hn117 _ e1; have h2 := (ho18.lt e2).2; omega
  have hs122 : ∀ b, sblk p113 = some b → sblk p27 ≠ some b := fun b e1 e2 => by have h1 := hn117 _ e1; have h2 := (ho29.lt e2).2; omega
  have hs123 : ∀ b, sblk p113 = some b → sblk p39 ≠ some b := fun b e1 e2 => by have h1 := hn117 _ e1; have h2 := (ho41.lt e2).2; omega
  have hs124 : ∀ b, sblk p113 = some b → sblk p52 ≠ some b := fun b e1 e2 => by have h1 := hn117 _ e1; have h2 := (ho54.lt e2).2; omega
  have hs125 : ∀ b, sblk p113 = some b → sblk p66 ≠ some b := fun b e1 e2 => by have h1 := hn117 _ e1; have h2 := (ho68.lt e2).2; omega
  have hs126 : ∀ b, sblk p113 = some b → sblk p81 ≠ some b := fun b e1 e2 => by have h1 := hn117 _ e1; have h2 := (ho83.lt e2).2; omega
  have hs127 : ∀ b, sblk p113 = some b → sblk p97 ≠ some b := fun b e1 e2 => by have h1 := hn117 _ e1; have h2 := (ho99.lt e2).2; omega
  replace hr8 := hr8.ext hx116
  replace ho14 := ho14.ext hx116
  replace ho18 := ho18.ext hx116
  replace ho29 := ho29.ext hx116
  replace ho41 := ho41.ext hx116
  replace ho54 := ho54.ext hx116
  replace ho68 := ho68.ext hx116
  replace ho83 := ho83.ext hx116
  replace ho99 := ho99.ext hx116
  replace hE := hE.tr hx116
  clear hx116
  clear hn117
  refine s_call f (g_yes f rfl rfl rfl) rfl Try.func69 rfl rfl (ev1 f rfl) (lrefused_calls (p := p113) (b := ([249, 0, 255] : List UInt8)) (c := c114) (hn := rn_249_0) (w := _) (hr0 := (ho115.rd))) ?_
  rintro _ w128 ⟨rfl, hx129⟩; refine ⟨_, rfl, ?_⟩; clear f a; intro a f
  replace hr8 := hr8.ext hx129
  replace ho14 := ho14.ext hx129
  replace ho18 := ho18.ext hx129
  replace ho29 := ho29.ext hx129
  replace ho41 := ho41.ext hx129
  replace ho54 := ho54.ext hx129
  replace ho68 := ho68.ext hx129
  replace ho83 := ho83.ext hx129
  replace ho99 := ho99.ext hx129
  replace ho115 := ho115.ext hx129
  replace hE := hE.tr hx129
  clear hx129
  refine s_pick (r := .bool true) f (g_none rfl) rfl rfl rfl rfl rfl ?_; clear f a; intro a f
  refine s_move f (g_none rfl) rfl rfl ?_; clear f a; intro a f
  refine s_move f (g_yes f rfl rfl rfl) rfl rfl ?_; clear f a; intro a f
  refine s_bin (v := .bool (decide ((((bytesOf ([97, 98] : List UInt8)).2 : Nat) : Int) = 0))) f (g_yes f rfl rfl rfl) rfl rfl rfl arith_eql ?_; clear f a; intro a f
  refine s_pick (r := .bool (decide ((((bytesOf ([97, 98] : List UInt8)).2 : Nat) : Int) = 0))) f (g_none rfl) rfl rfl rfl rfl rfl ?_; clear f a; intro a f
  refine s_move f (g_none rfl) rfl rfl ?_; clear f a; intro a f
  have hb130 : (decide ((((bytesOf ([97, 98] : List UInt8)).2 : Nat) : Int) = 0)) = true := decide_eq_true (by rw [bytes_ab]; rfl)
  rw [hb130] at f
  refine s_move f (g_yes f rfl rfl rfl) rfl rfl ?_; clear f a; intro a f
  refine t_lit (E := bytesE) (l := ([2, 97, 98] : List UInt8)) (B := w.heap.size) f (g_yes f rfl rfl rfl) rfl Try.underlying32 ti5 rfl (pt3 f rfl rfl rfl) (by decide) (fill_lit [.int .u8 (2), .int .u8 (97), .int .u8 (98)] rfl rfl (by simp [Value.cells])) rfl rfl (hE.size) ?_; clear f a; intro a w136 p131 c132 f hx134 ho133 hn135
  have hs138 : ∀ b, sblk p131 = some b → sblk q11 ≠ some b := fun b e1 e2 => by have h1 := hn135 _ e1; have h2 := (ho14.lt e2).2; omega
  have hs139 : ∀ b, sblk p131 = some b → sblk p16 ≠ some b := fun b e1 e2 => by have h1 := hn135 _ e1; have h2 := (ho18.lt e2).2; omega
  have hs140 : ∀ b, sblk p131 = some b → sblk p27 ≠ some b := fun b e1 e2 => by have h1 := hn135 _ e1; have h2 := (ho29.lt e2).2; omega
  have hs141 : ∀ b, sblk p131 = some b → sblk p39 ≠ some b := fun b e1 e2 => by have h1 := hn135 _ e1; have h2 := (ho41.lt e2).2; omega
  have hs142 : ∀ b, sblk p131 = some b → sblk p52 ≠ some b := fun b e1 e2 => by have h1 := hn135 _ e1; have h2 := (ho54.lt e2).2; omega
  have hs143 : ∀ b, sblk p131 = some b → sblk p66 ≠ some b := fun b e1 e2 => by have h1 := hn135 _ e1; have h2 := (ho68.lt e2).2; omega
  have hs144 : ∀ b, sblk p131 = some b → sblk p81 ≠ some b := fun b e1 e2 => by have h1 := hn135 _ e1; have h2 := (ho83.lt e2).2; omega
  have hs145 : ∀ b, sblk p131 = some b → sblk p97 ≠ some b := fun b e1 e2 => by have h1 := hn135 _ e1; have h2 := (ho99.lt e2).2; omega
  have hs146 : ∀ b, sblk p131 = some b → sblk p113 ≠ some b := fun b e1 e2 => by have h1 := hn135 _ e1; have h2 := (ho115.lt e2).2; omega
  replace hr8 := hr8.ext hx134
  replace ho14 := ho14.ext hx134
  replace ho18 := ho18.ext hx134
  replace ho29 := ho29.ext hx134
  replace ho41 := ho41.ext hx134
  replace ho54 := ho54.ext hx134
  replace ho68 := ho68.ext hx134
  replace ho83 := ho83.ext hx134
  replace ho99 := ho99.ext hx134
  replace ho115 := ho115.ext hx134
  replace hE := hE.tr hx134
  clear hx134
  clear hn135
  refine s_call f (g_yes f rfl rfl rfl) rfl Try.func30 rfl rfl (ev2 f rfl rfl) (same_calls (p := q11) (x := (bytesOf ([97, 98] : List UInt8)).1) (c := d12) (q := p131) (y := ([2, 97, 98] : List UInt8)) (d := c132) (w := _) (hr0 := (ho14.rd)) (hr1 := (ho133.rd))) ?_
  rintro _ w147 ⟨rfl, hx148⟩; refine ⟨_, rfl, ?_⟩; clear f a; intro a f
  replace hr8 := hr8.ext hx148
  replace ho14 := ho14.ext hx148
  replace ho18 := ho18.ext hx148
  replace ho29 := ho29.ext hx148
  replace ho41 := ho41.ext hx148
  replace ho54 := ho54.ext hx148
  replace ho68 := ho68.ext hx148
  replace ho83 := ho83.ext hx148
  replace ho99 := ho99.ext hx148
  replace ho115 := ho115.ext hx148
  replace ho133 := ho133.ext hx148
  replace hE := hE.tr hx148
  clear hx148
  refine s_pick (r := .bool (decide (((bytesOf ([97, 98] : List UInt8)).1) = ([2, 97, 98] : List UInt8)))) f (g_none rfl) rfl rfl rfl rfl rfl ?_; clear f a; intro a f
  refine s_assign f (g_none rfl) rfl rfl ?_; clear f a; intro a f
  refine nil_then ?_
  refine wp_ret ?_
  refine retG (vs := [.bool (decide (((bytesOf ([97, 98] : List UInt8)).1) = ([2, 97, 98] : List UInt8)))]) f rfl ⟨rfl, trivial⟩ ?_
  exact ⟨congrArg Ending.returned ((congrArg Value.bool (decide_eq_true (by rw [bytes_ab])))), hE⟩

set_option maxRecDepth 100000 in
theorem wireOrder_calls (n : Nat) (hn : n < 18446744073709551616) (m : Nat) (hm : m < 18446744073709551616) (w : World)  :
    Calls Try.prog 5 #[.int .u64 ((n : Nat) : Int), .int .u64 ((m : Nat) : Int)] w (fun e w' => e = .returned (.bool true) ∧ Ext w w') := by
  have hln := numBytes_len n hn
  have hlm := numBytes_len m hm
  refine enter (n := 58) (l := [(0, .int .u64 ((n : Nat) : Int)), (1, .int .u64 ((m : Nat) : Int))]) Try.func5 rfl rfl rfl rfl ?_; intro a f
  refine reg_seq ?_
  refine s_assign f (g_none rfl) rfl rfl ?_; clear f a; intro a f
  refine nil_then ?_
  refine reg_seq ?_
  refine s_move f (g_none rfl) rfl rfl ?_; clear f a; intro a f
  refine s_call f (g_none rfl) rfl Try.func31 rfl rfl (ev1 f rfl) (number_calls (n := n) (hn := (by omega)) (w := _) ) ?_
  rintro _ w1 ⟨p2, c3, rfl, hx4, ho5⟩; refine ⟨_, rfl, ?_⟩; clear f a; intro a f
  replace ho5 := ho5.mono (Nat.le_refl _)
  have hE := hx4; clear hx4
  refine s_move f (g_none rfl) rfl rfl ?_; clear f a; intro a f
  refine s_call f (g_none rfl) rfl Try.func31 rfl rfl (ev1 f rfl) (number_calls (n := m) (hn := (by omega)) (w := _) ) ?_
  rintro _ w6 ⟨p7, c8, rfl, hx9, ho10⟩; refine ⟨_, rfl, ?_⟩; clear f a; intro a f
  have hs11 : ∀ b, sblk p7 = some b → sblk p2 ≠ some b := fun b e1 e2 => by have h1 := (ho10.lt e1).1; have h2 := (ho5.lt e2).2; omega
  replace ho10 := ho10.mono (hE.size)
  replace ho5 := ho5.ext hx9
  replace hE := hE.tr hx9
  clear hx9
  refine s_assign f (g_none rfl) rfl rfl ?_; clear f a; intro a f
  refine s_assign f (g_none rfl) rfl rfl ?_; clear f a; intro a f
  refine nil_then ?_
  refine wp_seq ?_
  refine reg_seq ?_
  refine s_move f (g_none rfl) rfl rfl ?_; clear f a; intro a f
  refine t_len f (g_none rfl) rfl rfl Try.underlying32 rfl ?_; clear f a; intro a f
  refine s_bin f (g_none rfl) rfl rfl rfl rfl ?_; clear f a; intro a f
  refine s_move f (g_none rfl) rfl rfl ?_; clear f a; intro a f
  have hb12 : (decide ((((numBytes n).length : Nat) : Int) < 1)) = false := decide_eq_false (by omega)
  rw [hb12] at f
  refine s_move f (g_yes f rfl rfl rfl) rfl rfl ?_; clear f a; intro a f
  refine t_len f (g_yes f rfl rfl rfl) rfl rfl Try.underlying32 rfl ?_; clear f a; intro a f
  refine s_bin f (g_yes f rfl rfl rfl) rfl rfl rfl rfl ?_; clear f a; intro a f
  refine s_pick (r := .bool (decide (9 < (((numBytes n).length : Nat) : Int)))) f (g_none rfl) rfl rfl rfl rfl rfl ?_; clear f a; intro a f
  refine s_move f (g_none rfl) rfl rfl ?_; clear f a; intro a f
  have hb13 : (decide (9 < (((numBytes n).length : Nat) : Int))) = false := decide_eq_false (by omega)
  rw [hb13] at f
  refine s_move f (g_yes f rfl rfl rfl) rfl rfl ?_; clear f a; intro a f
  refine s_move f (g_yes f rfl rfl rfl) rfl rfl ?_; clear f a; intro a f
  refine s_bin f (g_yes f rfl rfl rfl) rfl rfl rfl rfl ?_; clear f a; intro a f
  refine s_move f (g_yes f rfl rfl rfl) rfl rfl ?_; clear f a; intro a f
  by_cases hc14 : ((n : Nat) : Int) < ((m : Nat) : Int)
  · skip
    have hb15 : (decide (((n : Nat) : Int) < ((m : Nat) : Int))) = true := decide_eq_true hc14
    rw [hb15] at f
    have ho := numBytes_order (n := n) (m := m) (by omega) hm
    refine s_move f (g_yes f rfl rfl rfl) rfl rfl ?_; clear f a; intro a f
    refine s_move f (g_yes f rfl rfl rfl) rfl rfl ?_; clear f a; intro a f
    refine s_call f (g_yes f rfl rfl rfl) rfl Try.func35 rfl rfl (ev2 f rfl rfl) (before_calls (p := p2) (x := numBytes n) (c := c3) (q := p7) (y := numBytes m) (d := c8) (w := _) (hr0 := (ho5.rd)) (hr1 := (ho10.rd))) ?_
    rintro _ w16 ⟨rfl, hx17⟩; refine ⟨_, rfl, ?_⟩; clear f a; intro a f
    replace ho5 := ho5.ext hx17
    replace ho10 := ho10.ext hx17
    replace hE := hE.tr hx17
    clear hx17
    refine s_not f (g_yes f rfl rfl rfl) rfl rfl ?_; clear f a; intro a f
    refine s_move f (g_yes f rfl rfl rfl) rfl rfl ?_; clear f a; intro a f
    have hb18 : (!(bLt (numBytes n) (numBytes m))) = false := by rw [ho.1]; rfl
    rw [hb18] at f
    refine s_move f (g_yes f rfl rfl rfl) rfl rfl ?_; clear f a; intro a f
    refine t_len f (g_yes f rfl rfl rfl) rfl rfl Try.underlying32 rfl ?_; clear f a; intro a f
    refine s_move f (g_yes f rfl rfl rfl) rfl rfl ?_; clear f a; intro a f
    refine t_len f (g_yes f rfl rfl rfl) rfl rfl Try.underlying32 rfl ?_; clear f a; intro a f
    refine s_bin f (g_yes f rfl rfl rfl) rfl rfl rfl rfl ?_; clear f a; intro a f
    refine s_pick (r := .bool (decide ((((numBytes m).length : Nat) : Int) < (((numBytes n).length : Nat) : Int)))) f (g_yes f rfl rfl rfl) rfl rfl rfl rfl rfl ?_; clear f a; intro a f
    refine s_pick (r := .bool (decide ((((numBytes m).length : Nat) : Int) < (((numBytes n).length : Nat) : Int)))) f (g_yes f rfl rfl rfl) rfl rfl rfl rfl rfl ?_; clear f a; intro a f
    refine s_pick (r := .bool (decide ((((numBytes m).length : Nat) : Int) < (((numBytes n).length : Nat) : Int)))) f (g_none rfl) rfl rfl rfl rfl rfl ?_; clear f a; intro a f
    refine s_move f (g_none rfl) rfl rfl ?_; clear f a; intro a f
    have hb19 : (decide ((((numBytes m).length : Nat) : Int) < (((numBytes n).length : Nat) : Int))) = false := decide_eq_false (by omega)
    rw [hb19] at f
    refine s_move f (g_yes f rfl rfl rfl) rfl rfl ?_; clear f a; intro a f
    refine s_move f (g_yes f rfl rfl rfl) rfl rfl ?_; clear f a; intro a f
    refine s_bin f (g_yes f rfl rfl rfl) rfl rfl rfl rfl ?_; clear f a; intro a f
    refine s_move f (g_yes f rfl rfl rfl) rfl rfl ?_; clear f a; intro a f
    have hb20 : (decide (((m : Nat) : Int) < ((n : Nat) : Int))) = false := decide_eq_false (by omega)
    rw [hb20] at f
    refine s_skip f (g_no f rfl rfl rfl) rfl ?_; clear f a; intro a f
    refine s_skip f (g_no f rfl rfl rfl) rfl ?_; clear f a; intro a f
    refine s_skip f (g_no f rfl rfl rfl) rfl ?_; clear f a; intro a f
    refine s_skip f (g_no f rfl rfl rfl) rfl ?_; clear f a; intro a f
    refine s_pick (r := .bool false) f (g_yes f rfl rfl rfl) rfl rfl rfl rfl rfl ?_; clear f a; intro a f
    refine s_pick (r := .bool false) f (g_none rfl) rfl rfl rfl rfl rfl ?_; clear f a; intro a f
    refine nil_then ?_
    refine c_false f rfl ?_
    refine wp_skip ?_
    refine then_n ?_
    refine reg_seq ?_
    refine s_move f (g_none rfl) rfl rfl ?_; clear f a; intro a f
    refine s_move f (g_none rfl) rfl rfl ?_; clear f a; intro a f
    refine s_bin (v := .bool (decide (((n : Nat) : Int) = ((m : Nat) : Int)))) f (g_none rfl) rfl rfl rfl arith_eql ?_; clear f a; intro a f
    refine s_move f (g_none rfl) rfl rfl ?_; clear f a; intro a f
    refine s_move f (g_none rfl) rfl rfl ?_; clear f a; intro a f
    refine s_call f (g_none rfl) rfl Try.func30 rfl rfl (ev2 f rfl rfl) (same_calls (p := p2) (x := numBytes n) (c := c3) (q := p7) (y := numBytes m) (d := c8) (w := _) (hr0 := (ho5.rd)) (hr1 := (ho10.rd))) ?_
    rintro _ w21 ⟨rfl, hx22⟩; refine ⟨_, rfl, ?_⟩; clear f a; intro a f
    replace ho5 := ho5.ext hx22
    replace ho10 := ho10.ext hx22
    replace hE := hE.tr hx22
    clear hx22
    refine s_eqlB f (g_none rfl) rfl Try.underlying4 rfl rfl ?_; clear f a; intro a f
    refine s_move f (g_none rfl) rfl rfl ?_; clear f a; intro a f
    have hb23 : ((decide (((n : Nat) : Int) = ((m : Nat) : Int))) == (decide ((numBytes n) = (numBytes m)))) = true := by rw [show decide ((n : Int) = (m : Int)) = decide (numBytes n = numBytes m) from decide_eq_decide.2 ⟨fun e => by rw [Int.ofNat.inj e], fun e => by rw [numBytes_inj hn hm e]⟩]; simp
    rw [hb23] at f
    refine s_call f (g_yes f rfl rfl rfl) rfl Try.func36 rfl rfl (by simp only [List.map_toArray, List.map_cons, List.map_nil]) (alive_calls  (w := _) ) ?_
    rintro _ w24 ⟨rfl, hx25⟩; refine ⟨_, rfl, ?_⟩; clear f a; intro a f
    replace ho5 := ho5.ext hx25
    replace ho10 := ho10.ext hx25
    replace hE := hE.tr hx25
    clear hx25
    refine s_pick (r := .bool true) f (g_none rfl) rfl rfl rfl rfl rfl ?_; clear f a; intro a f
    refine s_assign f (g_none rfl) rfl rfl ?_; clear f a; intro a f
    refine nil_then ?_
    refine wp_ret ?_
    refine retG (vs := [.bool true]) f rfl ⟨rfl, trivial⟩ ?_
    exact ⟨congrArg Ending.returned (rfl), hE⟩
  · skip
    have hb26 : (decide (((n : Nat) : Int) < ((m : Nat) : Int))) = false := decide_eq_false hc14
    rw [hb26] at f
    refine s_skip f (g_no f rfl rfl rfl) rfl ?_; clear f a; intro a f
    refine s_skip f (g_no f rfl rfl rfl) rfl ?_; clear f a; intro a f
    refine s_skip f (g_no f rfl rfl rfl) rfl ?_; clear f a; intro a f
    refine s_skip f (g_no f rfl rfl rfl) rfl ?_; clear f a; intro a f
    refine s_skip f (g_no f rfl rfl rfl) rfl ?_; clear f a; intro a f
    refine s_skip f (g_skip f rfl rfl rfl) rfl ?_; clear f a; intro a f
    refine s_skip f (g_skip f rfl rfl rfl) rfl ?_; clear f a; intro a f
    refine s_skip f (g_skip f rfl rfl rfl) rfl ?_; clear f a; intro a f
    refine s_skip f (g_skip f rfl rfl rfl) rfl ?_; clear f a; intro a f
    refine s_skip f (g_skip f rfl rfl rfl) rfl ?_; clear f a; intro a f
    refine s_skip f (g_no f rfl rfl rfl) rfl ?_; clear f a; intro a f
    refine s_pick (r := .bool false) f (g_yes f rfl rfl rfl) rfl rfl rfl rfl rfl ?_; clear f a; intro a f
    refine s_pick (r := .bool false) f (g_none rfl) rfl rfl rfl rfl rfl ?_; clear f a; intro a f
    refine s_move f (g_none rfl) rfl rfl ?_; clear f a; intro a f
    refine s_move f (g_yes f rfl rfl rfl) rfl rfl ?_; clear f a; intro a f
    refine s_move f (g_yes f rfl rfl rfl) rfl rfl ?_; clear f a; intro a f
    refine s_bin f (g_yes f rfl rfl rfl) rfl rfl rfl rfl ?_; clear f a; intro a f
    refine s_move f (g_yes f rfl rfl rfl) rfl rfl ?_; clear f a; intro a f
    by_cases hc27 : ((m : Nat) : Int) < ((n : Nat) : Int)
    · skip
      have hb28 : (decide (((m : Nat) : Int) < ((n : Nat) : Int))) = true := decide_eq_true hc27
      rw [hb28] at f
      have ho2 := numBytes_order (n := m) (m := n) (by omega) hn
      refine s_move f (g_yes f rfl rfl rfl) rfl rfl ?_; clear f a; intro a f
      refine s_move f (g_yes f rfl rfl rfl) rfl rfl ?_; clear f a; intro a f
      refine s_call f (g_yes f rfl rfl rfl) rfl Try.func35 rfl rfl (ev2 f rfl rfl) (before_calls (p := p7) (x := numBytes m) (c := c8) (q := p2) (y := numBytes n) (d := c3) (w := _) (hr0 := (ho10.rd)) (hr1 := (ho5.rd))) ?_
      rintro _ w29 ⟨rfl, hx30⟩; refine ⟨_, rfl, ?_⟩; clear f a; intro a f
      replace ho5 := ho5.ext hx30
      replace ho10 := ho10.ext hx30
      replace hE := hE.tr hx30
      clear hx30
      refine s_not f (g_yes f rfl rfl rfl) rfl rfl ?_; clear f a; intro a f
      refine s_pick (r := .bool (!(bLt (numBytes m) (numBytes n)))) f (g_yes f rfl rfl rfl) rfl rfl rfl rfl rfl ?_; clear f a; intro a f
      refine s_pick (r := .bool (!(bLt (numBytes m) (numBytes n)))) f (g_none rfl) rfl rfl rfl rfl rfl ?_; clear f a; intro a f
      refine nil_then ?_
      have hb31 : (!(bLt (numBytes m) (numBytes n))) = false := by rw [ho2.1]; rfl
      rw [hb31] at f
      refine c_false f rfl ?_
      refine wp_skip ?_
      refine then_n ?_
      refine reg_seq ?_
      refine s_move f (g_none rfl) rfl rfl ?_; clear f a; intro a f
      refine s_move f (g_none rfl) rfl rfl ?_; clear f a; intro a f
      refine s_bin (v := .bool (decide (((n : Nat) : Int) = ((m : Nat) : Int)))) f (g_none rfl) rfl rfl rfl arith_eql ?_; clear f a; intro a f
      refine s_move f (g_none rfl) rfl rfl ?_; clear f a; intro a f
      refine s_move f (g_none rfl) rfl rfl ?_; clear f a; intro a f
      refine s_call f (g_none rfl) rfl Try.func30 rfl rfl (ev2 f rfl rfl) (same_calls (p := p2) (x := numBytes n) (c := c3) (q := p7) (y := numBytes m) (d := c8) (w := _) (hr0 := (ho5.rd)) (hr1 := (ho10.rd))) ?_
      rintro _ w32 ⟨rfl, hx33⟩; refine ⟨_, rfl, ?_⟩; clear f a; intro a f
      replace ho5 := ho5.ext hx33
      replace ho10 := ho10.ext hx33
      replace hE := hE.tr hx33
      clear hx33
      refine s_eqlB f (g_none rfl) rfl Try.underlying4 rfl rfl ?_; clear f a; intro a f
      refine s_move f (g_none rfl) rfl rfl ?_; clear f a; intro a f
      have hb34 : ((decide (((n : Nat) : Int) = ((m : Nat) : Int))) == (decide ((numBytes n) = (numBytes m)))) = true := by rw [show decide ((n : Int) = (m : Int)) = decide (numBytes n = numBytes m) from decide_eq_decide.2 ⟨fun e => by rw [Int.ofNat.inj e], fun e => by rw [numBytes_inj hn hm e]⟩]; simp
      rw [hb34] at f
      refine s_call f (g_yes f rfl rfl rfl) rfl Try.func36 rfl rfl (by simp only [List.map_toArray, List.map_cons, List.map_nil]) (alive_calls  (w := _) ) ?_
      rintro _ w35 ⟨rfl, hx36⟩; refine ⟨_, rfl, ?_⟩; clear f a; intro a f
      replace ho5 := ho5.ext hx36
      replace ho10 := ho10.ext hx36
      replace hE := hE.tr hx36
      clear hx36
      refine s_pick (r := .bool true) f (g_none rfl) rfl rfl rfl rfl rfl ?_; clear f a; intro a f
      refine s_assign f (g_none rfl) rfl rfl ?_; clear f a; intro a f
      refine nil_then ?_
      refine wp_ret ?_
      refine retG (vs := [.bool true]) f rfl ⟨rfl, trivial⟩ ?_
      exact ⟨congrArg Ending.returned (rfl), hE⟩
    · skip
      have hb37 : (decide (((m : Nat) : Int) < ((n : Nat) : Int))) = false := decide_eq_false hc27
      rw [hb37] at f
      refine s_skip f (g_no f rfl rfl rfl) rfl ?_; clear f a; intro a f
      refine s_skip f (g_no f rfl rfl rfl) rfl ?_; clear f a; intro a f
      refine s_skip f (g_no f rfl rfl rfl) rfl ?_; clear f a; intro a f
      refine s_skip f (g_no f rfl rfl rfl) rfl ?_; clear f a; intro a f
      refine s_pick (r := .bool false) f (g_yes f rfl rfl rfl) rfl rfl rfl rfl rfl ?_; clear f a; intro a f
      refine s_pick (r := .bool false) f (g_none rfl) rfl rfl rfl rfl rfl ?_; clear f a; intro a f
      refine nil_then ?_
      refine c_false f rfl ?_
      refine wp_skip ?_
      refine then_n ?_
      refine reg_seq ?_
      refine s_move f (g_none rfl) rfl rfl ?_; clear f a; intro a f
      refine s_move f (g_none rfl) rfl rfl ?_; clear f a; intro a f
      refine s_bin (v := .bool (decide (((n : Nat) : Int) = ((m : Nat) : Int)))) f (g_none rfl) rfl rfl rfl arith_eql ?_; clear f a; intro a f
      refine s_move f (g_none rfl) rfl rfl ?_; clear f a; intro a f
      refine s_move f (g_none rfl) rfl rfl ?_; clear f a; intro a f
      refine s_call f (g_none rfl) rfl Try.func30 rfl rfl (ev2 f rfl rfl) (same_calls (p := p2) (x := numBytes n) (c := c3) (q := p7) (y := numBytes m) (d := c8) (w := _) (hr0 := (ho5.rd)) (hr1 := (ho10.rd))) ?_
      rintro _ w38 ⟨rfl, hx39⟩; refine ⟨_, rfl, ?_⟩; clear f a; intro a f
      replace ho5 := ho5.ext hx39
      replace ho10 := ho10.ext hx39
      replace hE := hE.tr hx39
      clear hx39
      refine s_eqlB f (g_none rfl) rfl Try.underlying4 rfl rfl ?_; clear f a; intro a f
      refine s_move f (g_none rfl) rfl rfl ?_; clear f a; intro a f
      have hb40 : ((decide (((n : Nat) : Int) = ((m : Nat) : Int))) == (decide ((numBytes n) = (numBytes m)))) = true := by rw [show decide ((n : Int) = (m : Int)) = decide (numBytes n = numBytes m) from decide_eq_decide.2 ⟨fun e => by rw [Int.ofNat.inj e], fun e => by rw [numBytes_inj hn hm e]⟩]; simp
      rw [hb40] at f
      refine s_call f (g_yes f rfl rfl rfl) rfl Try.func36 rfl rfl (by simp only [List.map_toArray, List.map_cons, List.map_nil]) (alive_calls  (w := _) ) ?_
      rintro _ w41 ⟨rfl, hx42⟩; refine ⟨_, rfl, ?_⟩; clear f a; intro a f
      replace ho5 := ho5.ext hx42
      replace ho10 := ho10.ext hx42
      replace hE := hE.tr hx42
      clear hx42
      refine s_pick (r := .bool true) f (g_none rfl) rfl rfl rfl rfl rfl ?_; clear f a; intro a f
      refine s_assign f (g_none rfl) rfl rfl ?_; clear f a; intro a f
      refine nil_then ?_
      refine wp_ret ?_
      refine retG (vs := [.bool true]) f rfl ⟨rfl, trivial⟩ ?_
      exact ⟨congrArg Ending.returned (rfl), hE⟩

end Go.Proofs.Ytklfgpdfongaeaa
