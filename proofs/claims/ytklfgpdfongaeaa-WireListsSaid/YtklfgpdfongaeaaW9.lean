/- Walks. -/
import Derived.Test.YtklfgpdfongaeaaW8
import Derived.Test.YtklfgpdfongaeaaLibN
namespace Go.Proofs.Ytklfgpdfongaeaa
open Go Go.RowKit
set_option linter.unusedSimpArgs false
set_option linter.unusedVariables false

set_option maxRecDepth 100000 in
theorem rtext_calls (p : Option Addr) (b : List UInt8) (c : Nat) (hb : b.length ≤ 1000000) (w : World) (hr0 : RdL bytesE w p c b) :
    Calls Try.prog 117 #[.slice p b.length c] w (fun e w' => ∃ q : Option Addr, ∃ d : Nat, e = .returned (.slice q (numBytes b.length ++ b).length d) ∧ Ext w w' ∧ OwL bytesE w' w.heap.size 5 q d (numBytes b.length ++ b)) := by
  have hnl := numBytes_len b.length (by omega)
  have hle0 := hr0.le
  refine enter (n := 9) (l := [(0, .slice p b.length c)]) Try.func117 rfl rfl rfl rfl ?_; intro a f
  refine reg_seq ?_
  refine s_assign f (g_none rfl) rfl rfl ?_; clear f a; intro a f
  refine nil_then ?_
  refine reg_seq ?_
  refine s_move f (g_none rfl) rfl rfl ?_; clear f a; intro a f
  refine t_len f (g_none rfl) rfl rfl Try.underlying32 rfl ?_; clear f a; intro a f
  refine s_conv (r := ((b.length : Nat) : Int)) f (g_none rfl) rfl Try.underlying3 Try.underlying31 rfl (nat_u64 b.length (by omega)) ?_; clear f a; intro a f
  refine s_call f (g_none rfl) rfl Try.func32 rfl rfl (ev1 f rfl) (rnumber_calls (n := b.length) (hn := (by omega)) (w := _) ) ?_
  rintro _ w1 ⟨p2, c3, rfl, hx4, ho5⟩; refine ⟨_, rfl, ?_⟩; clear f a; intro a f
  replace ho5 := ho5.mono (Nat.le_refl _)
  have hE := hx4; clear hx4
  refine s_move f (g_none rfl) rfl rfl ?_; clear f a; intro a f
  refine t_append (E := bytesE) (l := numBytes b.length) (m := b) (lm := (numBytes b.length) ++ b) (B := w.heap.size) f (g_none rfl) rfl Try.underlying32 ti5 rfl rfl rfl ho5 (hr0.ext hE) (by omega) (by omega) (hE.size) rfl ?_; clear f a; intro a w11 p6 c7 f ho8 hg9 hn10
  replace hE := hE.gr hg9 (fun b e => (ho5.lt e).1)
  clear hg9
  clear ho5
  clear hn10
  refine s_assign f (g_none rfl) rfl rfl ?_; clear f a; intro a f
  refine nil_then ?_
  refine wp_ret ?_
  refine retG (vs := [.slice p6 ((numBytes b.length) ++ b).length c7]) f rfl ⟨rfl, trivial⟩ ?_
  have hl12 : (numBytes b.length) ++ b = numBytes b.length ++ b := by simp
  exact ⟨p6, c7, congrArg Ending.returned ((congrArg (fun l : List UInt8 => Value.slice p6 l.length c7) hl12)), hE, (hl12 ▸ ho8)⟩

set_option maxRecDepth 100000 in
theorem rbytes_calls (p : Option Addr) (b : List UInt8) (c : Nat) (w : World) (hr0 : RdL bytesE w p c b) :
    Calls Try.prog 63 #[.slice p b.length c] w (fun e w' => ∃ q : Option Addr, ∃ d : Nat, e = .returned (.tuple #[.slice q ((bytesOf b).1).length d, .int .i64 (((bytesOf b).2 : Nat) : Int)]) ∧ Ext w w' ∧ OwL bytesE w' w.heap.size 5 q d ((bytesOf b).1)) := by
  have hle0 := hr0.le
  refine enter (n := 9) (l := [(0, .slice p b.length c)]) Try.func63 rfl rfl rfl rfl ?_; intro a f
  refine reg_seq ?_
  refine s_assign f (g_none rfl) rfl rfl ?_; clear f a; intro a f
  refine s_assign f (g_none rfl) rfl rfl ?_; clear f a; intro a f
  refine nil_then ?_
  refine wp_seq ?_
  refine reg_seq ?_
  refine s_move f (g_none rfl) rfl rfl ?_; clear f a; intro a f
  refine t_len f (g_none rfl) rfl rfl Try.underlying32 rfl ?_; clear f a; intro a f
  refine s_bin f (g_none rfl) rfl rfl rfl rfl ?_; clear f a; intro a f
  refine nil_then ?_
  by_cases hc1 : 10000 < ((b.length : Nat) : Int)
  · skip
    have hb2 : (decide (10000 < ((b.length : Nat) : Int))) = true := decide_eq_true hc1
    rw [hb2] at f
    refine c_true f rfl ?_
    refine reg_seq ?_
    refine s_assign f (g_none rfl) rfl rfl ?_; clear f a; intro a f
    refine s_assign f (g_none rfl) rfl rfl ?_; clear f a; intro a f
    refine nil_then ?_
    refine wp_ret ?_
    refine then_r ?_
    refine retG (vs := [.slice none 0 0, .int .i64 (4)]) f rfl ⟨rfl, rfl, trivial⟩ ?_
    have hg := bytesOf_many (s := b) (by omega)
    have hl3 : [] = (bytesOf b).1 := by rw [hg]
    exact ⟨none, 0, congrArg Ending.returned (tup2 (congrArg (fun l : List UInt8 => Value.slice none l.length 0) hl3) (congrArg (Value.int .i64) (by rw [hg] <;> rfl))), Ext.rfl', (hl3 ▸ OwL.nil)⟩
  · skip
    have hb4 : (decide (10000 < ((b.length : Nat) : Int))) = false := decide_eq_false hc1
    rw [hb4] at f
    refine c_false f rfl ?_
    refine wp_skip ?_
    refine then_n ?_
    refine reg_seq ?_
    refine s_move f (g_none rfl) rfl rfl ?_; clear f a; intro a f
    refine s_call f (g_none rfl) rfl Try.func117 rfl rfl (ev1 f rfl) (rtext_calls (p := p) (b := b) (c := c) (hb := (by omega)) (w := _) (hr0 := hr0)) ?_
    rintro _ w5 ⟨q6, d7, rfl, hx8, ho9⟩; refine ⟨_, rfl, ?_⟩; clear f a; intro a f
    replace ho9 := ho9.mono (Nat.le_refl _)
    have hE := hx8; clear hx8
    refine s_assign f (g_none rfl) rfl rfl ?_; clear f a; intro a f
    refine s_assign f (g_none rfl) rfl rfl ?_; clear f a; intro a f
    refine nil_then ?_
    refine wp_ret ?_
    refine retG (vs := [.slice q6 (numBytes b.length ++ b).length d7, .int .i64 (0)]) f rfl ⟨rfl, rfl, trivial⟩ ?_
    have hg := bytesOf_ok (s := b) (by omega)
    have hl10 : numBytes b.length ++ b = (bytesOf b).1 := by rw [hg]
    exact ⟨q6, d7, congrArg Ending.returned (tup2 (congrArg (fun l : List UInt8 => Value.slice q6 l.length d7) hl10) (congrArg (Value.int .i64) (by rw [hg] <;> rfl))), hE, (hl10 ▸ ho9)⟩

set_option maxRecDepth 100000 in
theorem rreadb_calls (p : Option Addr) (b : List UInt8) (c : Nat) (m : Int) (h1 : -9223372036854775808 ≤ m) (h2 : m ≤ 9223372036854775807) (hb : b.length ≤ 1000000) (w : World) (hr0 : RdL bytesE w p c b) :
    Calls Try.prog 64 #[.slice p b.length c, .int .i64 m] w (fun e w' => ∃ q : Option Addr, ∃ d : Nat, e = .returned (.tuple #[.slice q ((partL b m 1).1).length d, .int .i64 (((partL b m 1).2.1 : Nat) : Int), .int .i64 (((partL b m 1).2.2 : Nat) : Int)]) ∧ Ext w w' ∧ OwL bytesE w' w.heap.size 5 q d ((partL b m 1).1)) := by
  have hrl := readN_lt b
  have hru := readN_used b
  have hle0 := hr0.le
  refine enter (n := 47) (l := [(0, .slice p b.length c), (1, .int .i64 m)]) Try.func64 rfl rfl rfl rfl ?_; intro a f
  refine reg_seq ?_
  refine s_assign f (g_none rfl) rfl rfl ?_; clear f a; intro a f
  refine s_assign f (g_none rfl) rfl rfl ?_; clear f a; intro a f
  refine s_assign f (g_none rfl) rfl rfl ?_; clear f a; intro a f
  refine nil_then ?_
  refine wp_seq ?_
  refine reg_seq ?_
  refine s_move f (g_none rfl) rfl rfl ?_; clear f a; intro a f
  refine s_bin f (g_none rfl) rfl rfl rfl rfl ?_; clear f a; intro a f
  refine nil_then ?_
  by_cases hc1 : m < 0
  · skip
    have hb2 : (decide (m < 0)) = true := decide_eq_true hc1
    rw [hb2] at f
    refine c_true f rfl ?_
    refine reg_seq ?_
    refine s_assign f (g_none rfl) rfl rfl ?_; clear f a; intro a f
    refine s_assign f (g_none rfl) rfl rfl ?_; clear f a; intro a f
    refine s_assign f (g_none rfl) rfl rfl ?_; clear f a; intro a f
    refine nil_then ?_
    refine wp_ret ?_
    refine then_r ?_
    refine retG (vs := [.slice none 0 0, .int .i64 (0), .int .i64 (2)]) f rfl ⟨rfl, rfl, rfl, trivial⟩ ?_
    have hg := partL_arg (b := b) (k := 1) (most := m) (by omega)
    have hl3 : [] = (partL b m 1).1 := by rw [hg] <;> simp
    exact ⟨none, 0, congrArg Ending.returned (tup3 (congrArg (fun l : List UInt8 => Value.slice none l.length 0) hl3) (congrArg (Value.int .i64) (by rw [hg] <;> simp)) (congrArg (Value.int .i64) (by rw [hg] <;> rfl))), Ext.rfl', (hl3 ▸ OwL.nil)⟩
  · skip
    have hb4 : (decide (m < 0)) = false := decide_eq_false hc1
    rw [hb4] at f
    obtain ⟨mn, hmn⟩ : ∃ mn : Nat, m = (mn : Int) := ⟨m.toNat, by omega⟩
    refine c_false f rfl ?_
    refine wp_skip ?_
    refine then_n ?_
    refine reg_seq ?_
    refine s_move f (g_none rfl) rfl rfl ?_; clear f a; intro a f
    refine s_call f (g_none rfl) rfl Try.func27 rfl rfl (ev1 f rfl) (rreadn_calls (p := p) (b := b) (c := c) (w := _) (hr0 := hr0)) ?_
    rintro _ w5 ⟨rfl, hx6⟩; refine ⟨_, rfl, ?_⟩; clear f a; intro a f
    have hE := hx6; clear hx6
    refine s_move f (g_none rfl) rfl rfl ?_; clear f a; intro a f
    refine s_extract (v := .int .u64 (((readN b).1 : Nat) : Int)) f (g_none rfl) rfl rfl rfl ?_; clear f a; intro a f
    refine s_extract (v := .int .i64 (((readN b).2.1 : Nat) : Int)) f (g_none rfl) rfl rfl rfl ?_; clear f a; intro a f
    refine s_extract (v := .int .i64 (((readN b).2.2 : Nat) : Int)) f (g_none rfl) rfl rfl rfl ?_; clear f a; intro a f
    refine s_assign f (g_none rfl) rfl rfl ?_; clear f a; intro a f
    refine s_assign f (g_none rfl) rfl rfl ?_; clear f a; intro a f
    refine s_assign f (g_none rfl) rfl rfl ?_; clear f a; intro a f
    refine nil_then ?_
    refine wp_seq ?_
    refine reg_seq ?_
    refine s_move f (g_none rfl) rfl rfl ?_; clear f a; intro a f
    refine s_bin (v := .bool (decide ((((readN b).2.2 : Nat) : Int) ≠ 0))) f (g_none rfl) rfl rfl rfl arith_neq ?_; clear f a; intro a f
    refine s_move f (g_none rfl) rfl rfl ?_; clear f a; intro a f
    by_cases hc7 : (((readN b).2.2 : Nat) : Int) ≠ 0
    · skip
      have hb8 : (decide ((((readN b).2.2 : Nat) : Int) ≠ 0)) = true := decide_eq_true hc7
      rw [hb8] at f
      refine s_skip f (g_no f rfl rfl rfl) rfl ?_; clear f a; intro a f
      refine s_skip f (g_no f rfl rfl rfl) rfl ?_; clear f a; intro a f
      refine s_skip f (g_no f rfl rfl rfl) rfl ?_; clear f a; intro a f
      refine s_skip f (g_no f rfl rfl rfl) rfl ?_; clear f a; intro a f
      refine s_pick (r := .bool true) f (g_none rfl) rfl rfl rfl rfl rfl ?_; clear f a; intro a f
      refine s_move f (g_none rfl) rfl rfl ?_; clear f a; intro a f
      refine s_skip f (g_no f rfl rfl rfl) rfl ?_; clear f a; intro a f
      refine s_skip f (g_no f rfl rfl rfl) rfl ?_; clear f a; intro a f
      refine s_skip f (g_no f rfl rfl rfl) rfl ?_; clear f a; intro a f
      refine s_skip f (g_no f rfl rfl rfl) rfl ?_; clear f a; intro a f
      refine s_skip f (g_no f rfl rfl rfl) rfl ?_; clear f a; intro a f
      refine s_skip f (g_no f rfl rfl rfl) rfl ?_; clear f a; intro a f
      refine s_skip f (g_no f rfl rfl rfl) rfl ?_; clear f a; intro a f
      refine s_pick (r := .bool true) f (g_none rfl) rfl rfl rfl rfl rfl ?_; clear f a; intro a f
      refine nil_then ?_
      refine c_true f rfl ?_
      refine reg_seq ?_
      refine s_assign f (g_none rfl) rfl rfl ?_; clear f a; intro a f
      refine s_assign f (g_none rfl) rfl rfl ?_; clear f a; intro a f
      refine s_assign f (g_none rfl) rfl rfl ?_; clear f a; intro a f
      refine nil_then ?_
      refine wp_ret ?_
      refine then_r ?_
      refine retG (vs := [.slice none 0 0, .int .i64 (0), .int .i64 (12)]) f rfl ⟨rfl, rfl, rfl, trivial⟩ ?_
      have hg := partL_bad (b := b) (k := 1) (most := m) (by omega) (by rw [Nat.div_one]; omega)
      have hl9 : [] = (partL b m 1).1 := by rw [hg] <;> simp
      exact ⟨none, 0, congrArg Ending.returned (tup3 (congrArg (fun l : List UInt8 => Value.slice none l.length 0) hl9) (congrArg (Value.int .i64) (by rw [hg] <;> simp)) (congrArg (Value.int .i64) (by rw [hg] <;> rfl))), hE, (hl9 ▸ OwL.nil)⟩
    · skip
      have hb10 : (decide ((((readN b).2.2 : Nat) : Int) ≠ 0)) = false := decide_eq_false hc7
      rw [hb10] at f
      refine s_move f (g_yes f rfl rfl rfl) rfl rfl ?_; clear f a; intro a f
      refine s_move f (g_yes f rfl rfl rfl) rfl rfl ?_; clear f a; intro a f
      refine s_conv (r := m) f (g_yes f rfl rfl rfl) rfl Try.underlying3 Try.underlying31 rfl (wrap_u64 (by omega) (by omega)) ?_; clear f a; intro a f
      refine s_bin f (g_yes f rfl rfl rfl) rfl rfl rfl rfl ?_; clear f a; intro a f
      refine s_pick (r := .bool (decide (m < (((readN b).1 : Nat) : Int)))) f (g_none rfl) rfl rfl rfl rfl rfl ?_; clear f a; intro a f
      refine s_move f (g_none rfl) rfl rfl ?_; clear f a; intro a f
      by_cases hc11 : m < (((readN b).1 : Nat) : Int)
      · skip
        have hb12 : (decide (m < (((readN b).1 : Nat) : Int))) = true := decide_eq_true hc11
        rw [hb12] at f
        refine s_skip f (g_no f rfl rfl rfl) rfl ?_; clear f a; intro a f
        refine s_skip f (g_no f rfl rfl rfl) rfl ?_; clear f a; intro a f
        refine s_skip f (g_no f rfl rfl rfl) rfl ?_; clear f a; intro a f
        refine s_skip f (g_no f rfl rfl rfl) rfl ?_; clear f a; intro a f
        refine s_skip f (g_no f rfl rfl rfl) rfl ?_; clear f a; intro a f
        refine s_skip f (g_no f rfl rfl rfl) rfl ?_; clear f a; intro a f
        refine s_skip f (g_no f rfl rfl rfl) rfl ?_; clear f a; intro a f
        refine s_pick (r := .bool true) f (g_none rfl) rfl rfl rfl rfl rfl ?_; clear f a; intro a f
        refine nil_then ?_
        refine c_true f rfl ?_
        refine reg_seq ?_
        refine s_assign f (g_none rfl) rfl rfl ?_; clear f a; intro a f
        refine s_assign f (g_none rfl) rfl rfl ?_; clear f a; intro a f
        refine s_assign f (g_none rfl) rfl rfl ?_; clear f a; intro a f
        refine nil_then ?_
        refine wp_ret ?_
        refine then_r ?_
        refine retG (vs := [.slice none 0 0, .int .i64 (0), .int .i64 (12)]) f rfl ⟨rfl, rfl, rfl, trivial⟩ ?_
        have hg := partL_bad (b := b) (k := 1) (most := m) (by omega) (by rw [Nat.div_one]; omega)
        have hl13 : [] = (partL b m 1).1 := by rw [hg] <;> simp
        exact ⟨none, 0, congrArg Ending.returned (tup3 (congrArg (fun l : List UInt8 => Value.slice none l.length 0) hl13) (congrArg (Value.int .i64) (by rw [hg] <;> simp)) (congrArg (Value.int .i64) (by rw [hg] <;> rfl))), hE, (hl13 ▸ OwL.nil)⟩
      · skip
        have hb14 : (decide (m < (((readN b).1 : Nat) : Int))) = false := decide_eq_false hc11
        rw [hb14] at f
        refine s_move f (g_yes f rfl rfl rfl) rfl rfl ?_; clear f a; intro a f
        refine s_move f (g_yes f rfl rfl rfl) rfl rfl ?_; clear f a; intro a f
        refine t_len f (g_yes f rfl rfl rfl) rfl rfl Try.underlying32 rfl ?_; clear f a; intro a f
        refine s_move f (g_yes f rfl rfl rfl) rfl rfl ?_; clear f a; intro a f
        refine s_bin f (g_yes f rfl rfl rfl) rfl rfl rfl (arith_sub (r := ((b.length - ((readN b).2.1) : Nat) : Int)) (wrap_i64 (by omega) (by omega))) ?_; clear f a; intro a f
        refine s_conv (r := ((b.length - ((readN b).2.1) : Nat) : Int)) f (g_yes f rfl rfl rfl) rfl Try.underlying3 Try.underlying31 rfl (nat_u64 (b.length - ((readN b).2.1)) (by omega)) ?_; clear f a; intro a f
        refine s_bin f (g_yes f rfl rfl rfl) rfl rfl rfl rfl ?_; clear f a; intro a f
        refine s_pick (r := .bool (decide (((b.length - ((readN b).2.1) : Nat) : Int) < (((readN b).1 : Nat) : Int)))) f (g_none rfl) rfl rfl rfl rfl rfl ?_; clear f a; intro a f
        refine nil_then ?_
        by_cases hc15 : ((b.length - ((readN b).2.1) : Nat) : Int) < (((readN b).1 : Nat) : Int)
        · skip
          have hb16 : (decide (((b.length - ((readN b).2.1) : Nat) : Int) < (((readN b).1 : Nat) : Int))) = true := decide_eq_true hc15
          rw [hb16] at f
          refine c_true f rfl ?_
          refine reg_seq ?_
          refine s_assign f (g_none rfl) rfl rfl ?_; clear f a; intro a f
          refine s_assign f (g_none rfl) rfl rfl ?_; clear f a; intro a f
          refine s_assign f (g_none rfl) rfl rfl ?_; clear f a; intro a f
          refine nil_then ?_
          refine wp_ret ?_
          refine then_r ?_
          refine retG (vs := [.slice none 0 0, .int .i64 (0), .int .i64 (12)]) f rfl ⟨rfl, rfl, rfl, trivial⟩ ?_
          have hg := partL_bad (b := b) (k := 1) (most := m) (by omega) (by rw [Nat.div_one]; omega)
          have hl17 : [] = (partL b m 1).1 := by rw [hg] <;> simp
          exact ⟨none, 0, congrArg Ending.returned (tup3 (congrArg (fun l : List UInt8 => Value.slice none l.length 0) hl17) (congrArg (Value.int .i64) (by rw [hg] <;> simp)) (congrArg (Value.int .i64) (by rw [hg] <;> rfl))), hE, (hl17 ▸ OwL.nil)⟩
        · skip
          have hb18 : (decide (((b.length - ((readN b).2.1) : Nat) : Int) < (((readN b).1 : Nat) : Int))) = false := decide_eq_false hc15
          rw [hb18] at f
          refine c_false f rfl ?_
          refine wp_skip ?_
          refine then_n ?_
          refine reg_seq ?_
          refine s_move f (g_none rfl) rfl rfl ?_; clear f a; intro a f
          refine s_move f (g_none rfl) rfl rfl ?_; clear f a; intro a f
          refine s_conv (r := (((readN b).1 : Nat) : Int)) f (g_none rfl) rfl Try.underlying31 Try.underlying3 rfl (nat_i64 ((readN b).1) (by omega)) ?_; clear f a; intro a f
          refine s_bin f (g_none rfl) rfl rfl rfl (arith_add (r := (((readN b).2.1 + ((readN b).1) : Nat) : Int)) (wrap_i64 (by omega) (by omega))) ?_; clear f a; intro a f
          refine s_assign f (g_none rfl) rfl rfl ?_; clear f a; intro a f
          refine nil_then ?_
          refine reg_seq ?_
          refine t_lit (E := bytesE) (l := []) (B := w.heap.size) f (g_none rfl) rfl Try.underlying32 ti5 rfl (pt0 f) (by decide) (fill_lit [] rfl rfl (by simp [Value.cells])) rfl rfl (hE.size) ?_; clear f a; intro a w24 p19 c20 f hx22 ho21 hn23
          replace hE := hE.tr hx22
          clear hx22
          clear hn23
          refine s_move f (g_none rfl) rfl rfl ?_; clear f a; intro a f
          refine s_move f (g_none rfl) rfl rfl ?_; clear f a; intro a f
          refine s_move f (g_none rfl) rfl rfl ?_; clear f a; intro a f
          refine t_cut (i := (readN b).2.1) (j := (readN b).2.1 + ((readN b).1)) (E := bytesE) (l' := (b.drop (readN b).2.1).take (readN b).1) f (g_none rfl) rfl Try.underlying32 ti5 rfl (hr0.ext hE) (.inr ⟨_, _, rfl, rfl⟩) (.inr ⟨_, _, rfl, rfl⟩) (by omega) (by omega) (by rw [Nat.add_sub_cancel_left]) ?_; clear f a; intro a p25 c26 f hs27 hq28
          have hr29 := hs27 _ hr0
          refine t_append (E := bytesE) (l := []) (m := (b.drop (readN b).2.1).take (readN b).1) (lm := (b.drop (readN b).2.1).take (readN b).1) (B := w.heap.size) f (g_none rfl) rfl Try.underlying32 ti5 rfl rfl rfl ho21 (hr29.ext hE) (by first | omega | (simp; omega)) (by first | omega | (simp; omega)) (hE.size) (List.nil_append _) ?_; clear f a; intro a w35 p30 c31 f ho32 hg33 hn34
          replace hE := hE.gr hg33 (fun b e => (ho21.lt e).1)
          clear hg33
          clear ho21
          clear hn34
          refine s_move f (g_none rfl) rfl rfl ?_; clear f a; intro a f
          refine s_assign f (g_none rfl) rfl rfl ?_; clear f a; intro a f
          refine s_assign f (g_none rfl) rfl rfl ?_; clear f a; intro a f
          refine s_assign f (g_none rfl) rfl rfl ?_; clear f a; intro a f
          refine nil_then ?_
          refine wp_ret ?_
          refine retG (vs := [.slice p30 ((b.drop (readN b).2.1).take (readN b).1).length c31, .int .i64 (((readN b).2.1 + ((readN b).1) : Nat) : Int), .int .i64 (0)]) f rfl ⟨rfl, rfl, rfl, trivial⟩ ?_
          have hg := partL_good (b := b) (k := 1) (most := m) (by omega) (by rw [Nat.div_one]; omega)
          have hl36 : (b.drop (readN b).2.1).take (readN b).1 = (partL b m 1).1 := by rw [hg] <;> simp
          exact ⟨p30, c31, congrArg Ending.returned (tup3 (congrArg (fun l : List UInt8 => Value.slice p30 l.length c31) hl36) (congrArg (Value.int .i64) (by rw [hg] <;> simp)) (congrArg (Value.int .i64) (by rw [hg] <;> rfl))), hE, (hl36 ▸ ho32)⟩

set_option maxRecDepth 100000 in
theorem rlist_calls (p : Option Addr) (l : List ID32) (c : Nat) (hn : l.length ≤ 60) (w : World) (hr0 : RdL idsE w p c l) :
    Calls Try.prog 118 #[.slice p l.length c] w (fun e w' => ∃ q : Option Addr, ∃ d : Nat, e = .returned (.slice q (numBytes l.length ++ flat l).length d) ∧ Ext w w' ∧ OwL bytesE w' w.heap.size 5 q d (numBytes l.length ++ flat l)) := by
  have hnl := numBytes_len l.length (by omega)
  have hle0 := hr0.le
  refine enter (n := 22) (l := [(0, .slice p l.length c)]) Try.func118 rfl rfl rfl rfl ?_; intro a f
  refine reg_seq ?_
  refine s_assign f (g_none rfl) rfl rfl ?_; clear f a; intro a f
  refine nil_then ?_
  refine reg_seq ?_
  refine s_move f (g_none rfl) rfl rfl ?_; clear f a; intro a f
  refine t_len f (g_none rfl) rfl rfl Try.underlying83 rfl ?_; clear f a; intro a f
  refine s_conv (r := ((l.length : Nat) : Int)) f (g_none rfl) rfl Try.underlying3 Try.underlying31 rfl (nat_u64 l.length (by omega)) ?_; clear f a; intro a f
  refine s_call f (g_none rfl) rfl Try.func32 rfl rfl (ev1 f rfl) (rnumber_calls (n := l.length) (hn := (by omega)) (w := _) ) ?_
  rintro _ w1 ⟨p2, c3, rfl, hx4, ho5⟩; refine ⟨_, rfl, ?_⟩; clear f a; intro a f
  replace ho5 := ho5.mono (Nat.le_refl _)
  have hE := hx4; clear hx4
  refine s_assign f (g_none rfl) rfl rfl ?_; clear f a; intro a f
  refine nil_then ?_
  refine wp_seq ?_
  refine reg_seq ?_
  refine s_assign f (g_none rfl) rfl rfl ?_; clear f a; intro a f
  refine nil_then ?_
  refine wp_block ?_
  refine loop_ghost (α := Nat × Option Addr × Nat) (fun gg a wr => let ⟨i, pw, cw⟩ := gg; Frm 22 [(0, .slice p l.length c), (2, .slice none 0 0), (3, .slice pw (numBytes l.length ++ flat (l.take i)).length cw), (4, .int .i64 ((i : Nat) : Int))] a ∧ Ext w wr ∧ OwL bytesE wr w.heap.size 5 pw cw (numBytes l.length ++ flat (l.take i)) ∧ i ≤ l.length) (fun gg => let ⟨i, pw, cw⟩ := gg; l.length - i) (0, p2, c3) ?_ ?_
  · skip
    exact ⟨(Frm.pick f (Frm.pick f (Frm.pick f (Frm.pick f f.nil rfl) (look_eq rfl (by rw [← flat_zero]))) rfl) rfl), hE, (by rw [← flat_zero]; exact ho5), (by omega)⟩
  · skip
    clear f a
    clear ho5
    clear hE
    rintro ⟨i, pw, cw⟩ a wr ⟨f, hE, hw, hi⟩
    have hfl := flat_len (l.take i)
    rw [List.length_take] at hfl
    refine wp_seq ?_
    refine reg_seq ?_
    refine s_move f (g_none rfl) rfl rfl ?_; clear f a; intro a f
    refine s_move f (g_none rfl) rfl rfl ?_; clear f a; intro a f
    refine t_len f (g_none rfl) rfl rfl Try.underlying83 rfl ?_; clear f a; intro a f
    refine s_bin f (g_none rfl) rfl rfl rfl rfl ?_; clear f a; intro a f
    refine nil_then ?_
    by_cases hc7 : ((i : Nat) : Int) < ((l.length : Nat) : Int)
    · skip
      have hb8 : (decide (((i : Nat) : Int) < ((l.length : Nat) : Int))) = true := decide_eq_true hc7
      rw [hb8] at f
      refine c_true f rfl ?_
      refine wp_skip ?_
      refine then_n ?_
      refine wp_seq ?_
      refine wp_block ?_
      refine wp_region_lit ?_
      refine s_move f (g_none rfl) rfl rfl ?_; clear f a; intro a f
      refine s_move f (g_none rfl) rfl rfl ?_; clear f a; intro a f
      refine s_move f (g_none rfl) rfl rfl ?_; clear f a; intro a f
      refine t_indexAddr (j := i) (E := idsE) f (g_none rfl) rfl Try.underlying83 ti102 rfl (hr0.ext hE) rfl rfl rfl (by omega) ?_; clear f a; intro a f
      refine t_cutEr (l.getD i ID32.zero) f (g_none rfl) rfl Try.underlying102 ti5 rfl ?_; clear f a; intro a f
      have hr9 := RdL.elemID (i := i) (hr0.ext hE) (by omega)
      have hxl := (l.getD i ID32.zero).len
      refine t_append (E := bytesE) (l := numBytes l.length ++ flat (l.take i)) (m := (l.getD i ID32.zero).bytes) (lm := numBytes l.length ++ flat (l.take (i + 1))) (B := w.heap.size) f (g_none rfl) rfl Try.underlying32 ti5 rfl rfl rfl hw hr9 (by rw [List.length_append]; omega) (by rw [List.length_append]; omega) (hE.size) (flat_step _ (by omega)) ?_; clear f a; intro a w15 p10 c11 f ho12 hg13 hn14
      clear hr9
      replace hE := hE.gr hg13 (fun b e => (hw.lt e).1)
      clear hg13
      clear hw
      clear hn14
      refine s_assign f (g_none rfl) rfl rfl ?_; clear f a; intro a f
      refine wpList_nil ?_
      refine blk_n ?_
      refine then_n ?_
      refine wp_region_lit ?_
      refine s_move f (g_none rfl) rfl rfl ?_; clear f a; intro a f
      refine s_bin f (g_none rfl) rfl rfl rfl (arith_add (r := ((i + 1 : Nat) : Int)) (wrap_i64 (by omega) (by omega))) ?_; clear f a; intro a f
      refine s_assign f (g_none rfl) rfl rfl ?_; clear f a; intro a f
      refine wpList_nil ?_
      refine then_n ?_
      refine ⟨(i + 1, p10, c11), ?_, ?_⟩
      · skip
        exact ⟨(Frm.pick f (Frm.pick f (Frm.pick f (Frm.pick f f.nil rfl) rfl) rfl) rfl), hE, ho12, (by omega)⟩
      · show l.length - (i + 1) < l.length - i; omega
    · skip
      have hb17 : (decide (((i : Nat) : Int) < ((l.length : Nat) : Int))) = false := decide_eq_false hc7
      rw [hb17] at f
      refine c_false f rfl ?_
      refine wp_exit ?_
      refine then_e ?_
      refine then_e ?_
      refine blk_e ?_
      refine then_n ?_
      refine reg_seq ?_
      refine s_move f (g_none rfl) rfl rfl ?_; clear f a; intro a f
      refine s_assign f (g_none rfl) rfl rfl ?_; clear f a; intro a f
      refine nil_then ?_
      refine wp_ret ?_
      refine retG (vs := [.slice pw (numBytes l.length ++ flat (l.take i)).length cw]) f rfl ⟨rfl, trivial⟩ ?_
      have hl18 : numBytes l.length ++ flat (l.take i) = numBytes l.length ++ flat l := by rw [show i = l.length by omega, List.take_length]
      exact ⟨pw, cw, congrArg Ending.returned ((congrArg (fun l : List UInt8 => Value.slice pw l.length cw) hl18)), hE, (hl18 ▸ hw)⟩

set_option maxRecDepth 100000 in
theorem ridsr_calls (p : Option Addr) (l : List ID32) (c : Nat) (w : World) (hr0 : RdL idsE w p c l) :
    Calls Try.prog 65 #[.slice p l.length c] w (fun e w' => ∃ q : Option Addr, ∃ d : Nat, e = .returned (.tuple #[.slice q ((idsOf l).1).length d, .int .i64 (((idsOf l).2 : Nat) : Int)]) ∧ Ext w w' ∧ OwL bytesE w' w.heap.size 5 q d ((idsOf l).1)) := by
  have hle0 := hr0.le
  refine enter (n := 12) (l := [(0, .slice p l.length c)]) Try.func65 rfl rfl rfl rfl ?_; intro a f
  refine reg_seq ?_
  refine s_assign f (g_none rfl) rfl rfl ?_; clear f a; intro a f
  refine s_assign f (g_none rfl) rfl rfl ?_; clear f a; intro a f
  refine nil_then ?_
  refine wp_seq ?_
  refine reg_seq ?_
  refine s_move f (g_none rfl) rfl rfl ?_; clear f a; intro a f
  refine t_len f (g_none rfl) rfl rfl Try.underlying83 rfl ?_; clear f a; intro a f
  refine s_bin f (g_none rfl) rfl rfl rfl rfl ?_; clear f a; intro a f
  refine nil_then ?_
  by_cases hc1 : 60 < ((l.length : Nat) : Int)
  · skip
    have hb2 : (decide (60 < ((l.length : Nat) : Int))) = true := decide_eq_true hc1
    rw [hb2] at f
    refine c_true f rfl ?_
    refine reg_seq ?_
    refine s_assign f (g_none rfl) rfl rfl ?_; clear f a; intro a f
    refine s_assign f (g_none rfl) rfl rfl ?_; clear f a; intro a f
    refine nil_then ?_
    refine wp_ret ?_
    refine then_r ?_
    refine retG (vs := [.slice none 0 0, .int .i64 (4)]) f rfl ⟨rfl, rfl, trivial⟩ ?_
    have hg := idsOf_many (l := l) (by omega)
    have hl3 : [] = (idsOf l).1 := by rw [hg]
    exact ⟨none, 0, congrArg Ending.returned (tup2 (congrArg (fun l : List UInt8 => Value.slice none l.length 0) hl3) (congrArg (Value.int .i64) (by rw [hg] <;> rfl))), Ext.rfl', (hl3 ▸ OwL.nil)⟩
  · skip
    have hb4 : (decide (60 < ((l.length : Nat) : Int))) = false := decide_eq_false hc1
    rw [hb4] at f
    refine c_false f rfl ?_
    refine wp_skip ?_
    refine then_n ?_
    refine wp_seq ?_
    refine reg_seq ?_
    refine s_move f (g_none rfl) rfl rfl ?_; clear f a; intro a f
    refine s_call f (g_none rfl) rfl Try.func60 rfl rfl (ev1 f rfl) (rrising_calls (p := p) (l := l) (c := c) (w := _) (hr0 := hr0)) ?_
    rintro _ w5 ⟨rfl, hx6⟩; refine ⟨_, rfl, ?_⟩; clear f a; intro a f
    have hE := hx6; clear hx6
    refine s_not f (g_none rfl) rfl rfl ?_; clear f a; intro a f
    rw [← decide_not] at f
    refine nil_then ?_
    by_cases hc7 : ¬ (RisingP l)
    · skip
      have hb8 : (decide (¬ (RisingP l))) = true := decide_eq_true hc7
      rw [hb8] at f
      have hri := hc7
      refine c_true f rfl ?_
      refine reg_seq ?_
      refine s_assign f (g_none rfl) rfl rfl ?_; clear f a; intro a f
      refine s_assign f (g_none rfl) rfl rfl ?_; clear f a; intro a f
      refine nil_then ?_
      refine wp_ret ?_
      refine then_r ?_
      refine retG (vs := [.slice none 0 0, .int .i64 (32)]) f rfl ⟨rfl, rfl, trivial⟩ ?_
      have hg := idsOf_no (l := l) (by omega) hri
      have hl9 : [] = (idsOf l).1 := by rw [hg]
      exact ⟨none, 0, congrArg Ending.returned (tup2 (congrArg (fun l : List UInt8 => Value.slice none l.length 0) hl9) (congrArg (Value.int .i64) (by rw [hg] <;> rfl))), hE, (hl9 ▸ OwL.nil)⟩
    · skip
      have hb10 : (decide (¬ (RisingP l))) = false := decide_eq_false hc7
      rw [hb10] at f
      have hri := Classical.not_not.1 hc7
      refine c_false f rfl ?_
      refine wp_skip ?_
      refine then_n ?_
      refine reg_seq ?_
      refine s_move f (g_none rfl) rfl rfl ?_; clear f a; intro a f
      refine s_call f (g_none rfl) rfl Try.func118 rfl rfl (ev1 f rfl) (rlist_calls (p := p) (l := l) (c := c) (hn := (by omega)) (w := _) (hr0 := (hr0.ext hE))) ?_
      rintro _ w11 ⟨q12, d13, rfl, hx14, ho15⟩; refine ⟨_, rfl, ?_⟩; clear f a; intro a f
      replace ho15 := ho15.mono (hE.size)
      replace hE := hE.tr hx14
      clear hx14
      refine s_assign f (g_none rfl) rfl rfl ?_; clear f a; intro a f
      refine s_assign f (g_none rfl) rfl rfl ?_; clear f a; intro a f
      refine nil_then ?_
      refine wp_ret ?_
      refine retG (vs := [.slice q12 (numBytes l.length ++ flat l).length d13, .int .i64 (0)]) f rfl ⟨rfl, rfl, trivial⟩ ?_
      have hg := idsOf_ok (l := l) (by omega) hri
      have hl16 : numBytes l.length ++ flat l = (idsOf l).1 := by rw [hg]
      exact ⟨q12, d13, congrArg Ending.returned (tup2 (congrArg (fun l : List UInt8 => Value.slice q12 l.length d13) hl16) (congrArg (Value.int .i64) (by rw [hg] <;> rfl))), hE, (hl16 ▸ ho15)⟩

end Go.Proofs.Ytklfgpdfongaeaa
