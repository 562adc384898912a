/- Walks. -/
import Derived.Test.YtklfgpdfongaeaaTypes
import Derived.Test.YtklfgpdfongaeaaWireSpec
namespace Go.Proofs.Ytklfgpdfongaeaa
open Go Go.RowKit
set_option linter.unusedSimpArgs false
set_option linter.unusedVariables false

set_option maxRecDepth 100000 in
theorem len64_calls (n : Nat) (hn : n < 18446744073709551616) (w : World)  :
    Calls Try.prog 100 #[.int .u64 ((n : Nat) : Int)] w (fun e w' => e = .returned (.int .i64 ((bitLen n : Nat) : Int)) ∧ w = w') := by
  refine enter (n := 25) (l := [(0, .int .u64 ((n : Nat) : Int))]) Try.func100 rfl rfl rfl rfl ?_; intro a f
  refine reg_seq ?_
  refine s_assign f (g_none rfl) rfl rfl ?_; clear f a; intro a f
  refine nil_then ?_
  refine wp_seq ?_
  refine reg_seq ?_
  refine s_move f (g_none rfl) rfl rfl ?_; clear f a; intro a f
  refine s_bin f (g_none rfl) rfl rfl rfl rfl ?_; clear f a; intro a f
  refine nil_then ?_
  by_cases hc1 : 4294967296 ≤ ((n : Nat) : Int)
  · skip
    have hb2 : (decide (4294967296 ≤ ((n : Nat) : Int))) = true := decide_eq_true hc1
    rw [hb2] at f
    refine c_true f rfl ?_
    refine reg_seq ?_
    refine s_move f (g_none rfl) rfl rfl ?_; clear f a; intro a f
    refine s_shr (r := ((n / 4294967296 : Nat) : Int)) f (g_none rfl) rfl rfl rfl (by decide) (shr_nat _ 32 64 (by decide)) ?_; clear f a; intro a f
    refine s_assign f (g_none rfl) rfl rfl ?_; clear f a; intro a f
    refine nil_then ?_
    refine wp_region_lit ?_
    refine s_assign f (g_none rfl) rfl rfl ?_; clear f a; intro a f
    refine wpList_nil ?_
    refine then_n ?_
    refine wp_seq ?_
    refine reg_seq ?_
    refine s_move f (g_none rfl) rfl rfl ?_; clear f a; intro a f
    refine s_bin f (g_none rfl) rfl rfl rfl rfl ?_; clear f a; intro a f
    refine nil_then ?_
    by_cases hc3 : 65536 ≤ ((n / 4294967296 : Nat) : Int)
    · skip
      have hb4 : (decide (65536 ≤ ((n / 4294967296 : Nat) : Int))) = true := decide_eq_true hc3
      rw [hb4] at f
      refine c_true f rfl ?_
      refine reg_seq ?_
      refine s_move f (g_none rfl) rfl rfl ?_; clear f a; intro a f
      refine s_shr (r := ((n / 4294967296 / 65536 : Nat) : Int)) f (g_none rfl) rfl rfl rfl (by decide) (shr_nat _ 16 64 (by decide)) ?_; clear f a; intro a f
      refine s_assign f (g_none rfl) rfl rfl ?_; clear f a; intro a f
      refine nil_then ?_
      refine wp_region_lit ?_
      refine s_move f (g_none rfl) rfl rfl ?_; clear f a; intro a f
      refine s_bin f (g_none rfl) rfl rfl rfl (arith_add (r := ((32 + 16 : Nat) : Int)) (wrap_i64 (by omega) (by omega))) ?_; clear f a; intro a f
      refine s_assign f (g_none rfl) rfl rfl ?_; clear f a; intro a f
      refine wpList_nil ?_
      refine then_n ?_
      refine wp_seq ?_
      refine reg_seq ?_
      refine s_move f (g_none rfl) rfl rfl ?_; clear f a; intro a f
      refine s_bin f (g_none rfl) rfl rfl rfl rfl ?_; clear f a; intro a f
      refine nil_then ?_
      by_cases hc5 : 256 ≤ ((n / 4294967296 / 65536 : Nat) : Int)
      · skip
        have hb6 : (decide (256 ≤ ((n / 4294967296 / 65536 : Nat) : Int))) = true := decide_eq_true hc5
        rw [hb6] at f
        refine c_true f rfl ?_
        refine reg_seq ?_
        refine s_move f (g_none rfl) rfl rfl ?_; clear f a; intro a f
        refine s_shr (r := ((n / 4294967296 / 65536 / 256 : Nat) : Int)) f (g_none rfl) rfl rfl rfl (by decide) (shr_nat _ 8 64 (by decide)) ?_; clear f a; intro a f
        refine s_assign f (g_none rfl) rfl rfl ?_; clear f a; intro a f
        refine nil_then ?_
        refine wp_region_lit ?_
        refine s_move f (g_none rfl) rfl rfl ?_; clear f a; intro a f
        refine s_bin f (g_none rfl) rfl rfl rfl (arith_add (r := ((32 + 16 + 8 : Nat) : Int)) (wrap_i64 (by omega) (by omega))) ?_; clear f a; intro a f
        refine s_assign f (g_none rfl) rfl rfl ?_; clear f a; intro a f
        refine wpList_nil ?_
        refine then_n ?_
        refine reg_seq ?_
        refine s_move f (g_none rfl) rfl rfl ?_; clear f a; intro a f
        refine s_move f (g_none rfl) rfl rfl ?_; clear f a; intro a f
        refine s_conv (r := (((UInt8.ofNat (n / 4294967296 / 65536 / 256)).toNat : Nat) : Int)) f (g_none rfl) rfl Try.underlying31 Try.underlying5 rfl (wrap_u8_ofNat _) ?_; clear f a; intro a f
        refine s_indexStr (c0 := UInt8.ofNat (bitLen (n / 4294967296 / 65536 / 256))) f (g_none rfl) rfl Try.underlying9 rfl rfl (by omega) (len8_get _ (by omega)) ?_; clear f a; intro a f
        refine s_conv (r := ((bitLen (n / 4294967296 / 65536 / 256) : Nat) : Int)) f (g_none rfl) rfl Try.underlying5 Try.underlying3 rfl (len8_conv _ (by omega)) ?_; clear f a; intro a f
        have hbl := bitLen_le (n / 4294967296 / 65536 / 256) 8 (by show _ < 256; omega)
        refine s_bin f (g_none rfl) rfl rfl rfl (arith_add (r := ((32 + 16 + 8 + (bitLen (n / 4294967296 / 65536 / 256)) : Nat) : Int)) (wrap_i64 (by omega) (by omega))) ?_; clear f a; intro a f
        refine s_assign f (g_none rfl) rfl rfl ?_; clear f a; intro a f
        refine nil_then ?_
        refine wp_ret ?_
        refine retG (vs := [.int .i64 ((32 + 16 + 8 + (bitLen (n / 4294967296 / 65536 / 256)) : Nat) : Int)]) f rfl ⟨rfl, trivial⟩ ?_
        have e32 : bitLen (n) = 32 + bitLen (n / 4294967296) := bitLen_shift _ 32 (by omega)
        have e16 : bitLen (n / 4294967296) = 16 + bitLen (n / 4294967296 / 65536) := bitLen_shift _ 16 (by omega)
        have e8 : bitLen (n / 4294967296 / 65536) = 8 + bitLen (n / 4294967296 / 65536 / 256) := bitLen_shift _ 8 (by omega)
        exact ⟨congrArg Ending.returned ((congrArg (Value.int .i64) (congrArg Nat.cast (by omega)))), rfl⟩
      · skip
        have hb7 : (decide (256 ≤ ((n / 4294967296 / 65536 : Nat) : Int))) = false := decide_eq_false hc5
        rw [hb7] at f
        refine c_false f rfl ?_
        refine wp_skip ?_
        refine then_n ?_
        refine reg_seq ?_
        refine s_move f (g_none rfl) rfl rfl ?_; clear f a; intro a f
        refine s_move f (g_none rfl) rfl rfl ?_; clear f a; intro a f
        refine s_conv (r := (((UInt8.ofNat (n / 4294967296 / 65536)).toNat : Nat) : Int)) f (g_none rfl) rfl Try.underlying31 Try.underlying5 rfl (wrap_u8_ofNat _) ?_; clear f a; intro a f
        refine s_indexStr (c0 := UInt8.ofNat (bitLen (n / 4294967296 / 65536))) f (g_none rfl) rfl Try.underlying9 rfl rfl (by omega) (len8_get _ (by omega)) ?_; clear f a; intro a f
        refine s_conv (r := ((bitLen (n / 4294967296 / 65536) : Nat) : Int)) f (g_none rfl) rfl Try.underlying5 Try.underlying3 rfl (len8_conv _ (by omega)) ?_; clear f a; intro a f
        have hbl := bitLen_le (n / 4294967296 / 65536) 8 (by show _ < 256; omega)
        refine s_bin f (g_none rfl) rfl rfl rfl (arith_add (r := ((32 + 16 + (bitLen (n / 4294967296 / 65536)) : Nat) : Int)) (wrap_i64 (by omega) (by omega))) ?_; clear f a; intro a f
        refine s_assign f (g_none rfl) rfl rfl ?_; clear f a; intro a f
        refine nil_then ?_
        refine wp_ret ?_
        refine retG (vs := [.int .i64 ((32 + 16 + (bitLen (n / 4294967296 / 65536)) : Nat) : Int)]) f rfl ⟨rfl, trivial⟩ ?_
        have e32 : bitLen (n) = 32 + bitLen (n / 4294967296) := bitLen_shift _ 32 (by omega)
        have e16 : bitLen (n / 4294967296) = 16 + bitLen (n / 4294967296 / 65536) := bitLen_shift _ 16 (by omega)
        exact ⟨congrArg Ending.returned ((congrArg (Value.int .i64) (congrArg Nat.cast (by omega)))), rfl⟩
    · skip
      have hb8 : (decide (65536 ≤ ((n / 4294967296 : Nat) : Int))) = false := decide_eq_false hc3
      rw [hb8] at f
      refine c_false f rfl ?_
      refine wp_skip ?_
      refine then_n ?_
      refine wp_seq ?_
      refine reg_seq ?_
      refine s_move f (g_none rfl) rfl rfl ?_; clear f a; intro a f
      refine s_bin f (g_none rfl) rfl rfl rfl rfl ?_; clear f a; intro a f
      refine nil_then ?_
      by_cases hc9 : 256 ≤ ((n / 4294967296 : Nat) : Int)
      · skip
        have hb10 : (decide (256 ≤ ((n / 4294967296 : Nat) : Int))) = true := decide_eq_true hc9
        rw [hb10] at f
        refine c_true f rfl ?_
        refine reg_seq ?_
        refine s_move f (g_none rfl) rfl rfl ?_; clear f a; intro a f
        refine s_shr (r := ((n / 4294967296 / 256 : Nat) : Int)) f (g_none rfl) rfl rfl rfl (by decide) (shr_nat _ 8 64 (by decide)) ?_; clear f a; intro a f
        refine s_assign f (g_none rfl) rfl rfl ?_; clear f a; intro a f
        refine nil_then ?_
        refine wp_region_lit ?_
        refine s_move f (g_none rfl) rfl rfl ?_; clear f a; intro a f
        refine s_bin f (g_none rfl) rfl rfl rfl (arith_add (r := ((32 + 8 : Nat) : Int)) (wrap_i64 (by omega) (by omega))) ?_; clear f a; intro a f
        refine s_assign f (g_none rfl) rfl rfl ?_; clear f a; intro a f
        refine wpList_nil ?_
        refine then_n ?_
        refine reg_seq ?_
        refine s_move f (g_none rfl) rfl rfl ?_; clear f a; intro a f
        refine s_move f (g_none rfl) rfl rfl ?_; clear f a; intro a f
        refine s_conv (r := (((UInt8.ofNat (n / 4294967296 / 256)).toNat : Nat) : Int)) f (g_none rfl) rfl Try.underlying31 Try.underlying5 rfl (wrap_u8_ofNat _) ?_; clear f a; intro a f
        refine s_indexStr (c0 := UInt8.ofNat (bitLen (n / 4294967296 / 256))) f (g_none rfl) rfl Try.underlying9 rfl rfl (by omega) (len8_get _ (by omega)) ?_; clear f a; intro a f
        refine s_conv (r := ((bitLen (n / 4294967296 / 256) : Nat) : Int)) f (g_none rfl) rfl Try.underlying5 Try.underlying3 rfl (len8_conv _ (by omega)) ?_; clear f a; intro a f
        have hbl := bitLen_le (n / 4294967296 / 256) 8 (by show _ < 256; omega)
        refine s_bin f (g_none rfl) rfl rfl rfl (arith_add (r := ((32 + 8 + (bitLen (n / 4294967296 / 256)) : Nat) : Int)) (wrap_i64 (by omega) (by omega))) ?_; clear f a; intro a f
        refine s_assign f (g_none rfl) rfl rfl ?_; clear f a; intro a f
        refine nil_then ?_
        refine wp_ret ?_
        refine retG (vs := [.int .i64 ((32 + 8 + (bitLen (n / 4294967296 / 256)) : Nat) : Int)]) f rfl ⟨rfl, trivial⟩ ?_
        have e32 : bitLen (n) = 32 + bitLen (n / 4294967296) := bitLen_shift _ 32 (by omega)
        have e8 : bitLen (n / 4294967296) = 8 + bitLen (n / 4294967296 / 256) := bitLen_shift _ 8 (by omega)
        exact ⟨congrArg Ending.returned ((congrArg (Value.int .i64) (congrArg Nat.cast (by omega)))), rfl⟩
      · skip
        have hb11 : (decide (256 ≤ ((n / 4294967296 : Nat) : Int))) = false := decide_eq_false hc9
        rw [hb11] at f
        refine c_false f rfl ?_
        refine wp_skip ?_
        refine then_n ?_
        refine reg_seq ?_
        refine s_move f (g_none rfl) rfl rfl ?_; clear f a; intro a f
        refine s_move f (g_none rfl) rfl rfl ?_; clear f a; intro a f
        refine s_conv (r := (((UInt8.ofNat (n / 4294967296)).toNat : Nat) : Int)) f (g_none rfl) rfl Try.underlying31 Try.underlying5 rfl (wrap_u8_ofNat _) ?_; clear f a; intro a f
        refine s_indexStr (c0 := UInt8.ofNat (bitLen (n / 4294967296))) f (g_none rfl) rfl Try.underlying9 rfl rfl (by omega) (len8_get _ (by omega)) ?_; clear f a; intro a f
        refine s_conv (r := ((bitLen (n / 4294967296) : Nat) : Int)) f (g_none rfl) rfl Try.underlying5 Try.underlying3 rfl (len8_conv _ (by omega)) ?_; clear f a; intro a f
        have hbl := bitLen_le (n / 4294967296) 8 (by show _ < 256; omega)
        refine s_bin f (g_none rfl) rfl rfl rfl (arith_add (r := ((32 + (bitLen (n / 4294967296)) : Nat) : Int)) (wrap_i64 (by omega) (by omega))) ?_; clear f a; intro a f
        refine s_assign f (g_none rfl) rfl rfl ?_; clear f a; intro a f
        refine nil_then ?_
        refine wp_ret ?_
        refine retG (vs := [.int .i64 ((32 + (bitLen (n / 4294967296)) : Nat) : Int)]) f rfl ⟨rfl, trivial⟩ ?_
        have e32 : bitLen (n) = 32 + bitLen (n / 4294967296) := bitLen_shift _ 32 (by omega)
        exact ⟨congrArg Ending.returned ((congrArg (Value.int .i64) (congrArg Nat.cast (by omega)))), rfl⟩
  · skip
    have hb12 : (decide (4294967296 ≤ ((n : Nat) : Int))) = false := decide_eq_false hc1
    rw [hb12] at f
    refine c_false f rfl ?_
    refine wp_skip ?_
    refine then_n ?_
    refine wp_seq ?_
    refine reg_seq ?_
    refine s_move f (g_none rfl) rfl rfl ?_; clear f a; intro a f
    refine s_bin f (g_none rfl) rfl rfl rfl rfl ?_; clear f a; intro a f
    refine nil_then ?_
    by_cases hc13 : 65536 ≤ ((n : Nat) : Int)
    · skip
      have hb14 : (decide (65536 ≤ ((n : Nat) : Int))) = true := decide_eq_true hc13
      rw [hb14] at f
      refine c_true f rfl ?_
      refine reg_seq ?_
      refine s_move f (g_none rfl) rfl rfl ?_; clear f a; intro a f
      refine s_shr (r := ((n / 65536 : Nat) : Int)) f (g_none rfl) rfl rfl rfl (by decide) (shr_nat _ 16 64 (by decide)) ?_; clear f a; intro a f
      refine s_assign f (g_none rfl) rfl rfl ?_; clear f a; intro a f
      refine nil_then ?_
      refine wp_region_lit ?_
      refine s_move f (g_none rfl) rfl rfl ?_; clear f a; intro a f
      refine s_bin f (g_none rfl) rfl rfl rfl (arith_add (r := ((0 + 16 : Nat) : Int)) (wrap_i64 (by omega) (by omega))) ?_; clear f a; intro a f
      refine s_assign f (g_none rfl) rfl rfl ?_; clear f a; intro a f
      refine wpList_nil ?_
      refine then_n ?_
      refine wp_seq ?_
      refine reg_seq ?_
      refine s_move f (g_none rfl) rfl rfl ?_; clear f a; intro a f
      refine s_bin f (g_none rfl) rfl rfl rfl rfl ?_; clear f a; intro a f
      refine nil_then ?_
      by_cases hc15 : 256 ≤ ((n / 65536 : Nat) : Int)
      · skip
        have hb16 : (decide (256 ≤ ((n / 65536 : Nat) : Int))) = true := decide_eq_true hc15
        rw [hb16] at f
        refine c_true f rfl ?_
        refine reg_seq ?_
        refine s_move f (g_none rfl) rfl rfl ?_; clear f a; intro a f
        refine s_shr (r := ((n / 65536 / 256 : Nat) : Int)) f (g_none rfl) rfl rfl rfl (by decide) (shr_nat _ 8 64 (by decide)) ?_; clear f a; intro a f
        refine s_assign f (g_none rfl) rfl rfl ?_; clear f a; intro a f
        refine nil_then ?_
        refine wp_region_lit ?_
        refine s_move f (g_none rfl) rfl rfl ?_; clear f a; intro a f
        refine s_bin f (g_none rfl) rfl rfl rfl (arith_add (r := ((0 + 16 + 8 : Nat) : Int)) (wrap_i64 (by omega) (by omega))) ?_; clear f a; intro a f
        refine s_assign f (g_none rfl) rfl rfl ?_; clear f a; intro a f
        refine wpList_nil ?_
        refine then_n ?_
        refine reg_seq ?_
        refine s_move f (g_none rfl) rfl rfl ?_; clear f a; intro a f
        refine s_move f (g_none rfl) rfl rfl ?_; clear f a; intro a f
        refine s_conv (r := (((UInt8.ofNat (n / 65536 / 256)).toNat : Nat) : Int)) f (g_none rfl) rfl Try.underlying31 Try.underlying5 rfl (wrap_u8_ofNat _) ?_; clear f a; intro a f
        refine s_indexStr (c0 := UInt8.ofNat (bitLen (n / 65536 / 256))) f (g_none rfl) rfl Try.underlying9 rfl rfl (by omega) (len8_get _ (by omega)) ?_; clear f a; intro a f
        refine s_conv (r := ((bitLen (n / 65536 / 256) : Nat) : Int)) f (g_none rfl) rfl Try.underlying5 Try.underlying3 rfl (len8_conv _ (by omega)) ?_; clear f a; intro a f
        have hbl := bitLen_le (n / 65536 / 256) 8 (by show _ < 256; omega)
        refine s_bin f (g_none rfl) rfl rfl rfl (arith_add (r := ((0 + 16 + 8 + (bitLen (n / 65536 / 256)) : Nat) : Int)) (wrap_i64 (by omega) (by omega))) ?_; clear f a; intro a f
        refine s_assign f (g_none rfl) rfl rfl ?_; clear f a; intro a f
        refine nil_then ?_
        refine wp_ret ?_
        refine retG (vs := [.int .i64 ((0 + 16 + 8 + (bitLen (n / 65536 / 256)) : Nat) : Int)]) f rfl ⟨rfl, trivial⟩ ?_
        have e16 : bitLen (n) = 16 + bitLen (n / 65536) := bitLen_shift _ 16 (by omega)
        have e8 : bitLen (n / 65536) = 8 + bitLen (n / 65536 / 256) := bitLen_shift _ 8 (by omega)
        exact ⟨congrArg Ending.returned ((congrArg (Value.int .i64) (congrArg Nat.cast (by omega)))), rfl⟩
      · skip
        have hb17 : (decide (256 ≤ ((n / 65536 : Nat) : Int))) = false := decide_eq_false hc15
        rw [hb17] at f
        refine c_false f rfl ?_
        refine wp_skip ?_
        refine then_n ?_
        refine reg_seq ?_
        refine s_move f (g_none rfl) rfl rfl ?_; clear f a; intro a f
        refine s_move f (g_none rfl) rfl rfl ?_; clear f a; intro a f
        refine s_conv (r := (((UInt8.ofNat (n / 65536)).toNat : Nat) : Int)) f (g_none rfl) rfl Try.underlying31 Try.underlying5 rfl (wrap_u8_ofNat _) ?_; clear f a; intro a f
        refine s_indexStr (c0 := UInt8.ofNat (bitLen (n / 65536))) f (g_none rfl) rfl Try.underlying9 rfl rfl (by omega) (len8_get _ (by omega)) ?_; clear f a; intro a f
        refine s_conv (r := ((bitLen (n / 65536) : Nat) : Int)) f (g_none rfl) rfl Try.underlying5 Try.underlying3 rfl (len8_conv _ (by omega)) ?_; clear f a; intro a f
        have hbl := bitLen_le (n / 65536) 8 (by show _ < 256; omega)
        refine s_bin f (g_none rfl) rfl rfl rfl (arith_add (r := ((0 + 16 + (bitLen (n / 65536)) : Nat) : Int)) (wrap_i64 (by omega) (by omega))) ?_; clear f a; intro a f
        refine s_assign f (g_none rfl) rfl rfl ?_; clear f a; intro a f
        refine nil_then ?_
        refine wp_ret ?_
        refine retG (vs := [.int .i64 ((0 + 16 + (bitLen (n / 65536)) : Nat) : Int)]) f rfl ⟨rfl, trivial⟩ ?_
        have e16 : bitLen (n) = 16 + bitLen (n / 65536) := bitLen_shift _ 16 (by omega)
        exact ⟨congrArg Ending.returned ((congrArg (Value.int .i64) (congrArg Nat.cast (by omega)))), rfl⟩
    · skip
      have hb18 : (decide (65536 ≤ ((n : Nat) : Int))) = false := decide_eq_false hc13
      rw [hb18] at f
      refine c_false f rfl ?_
      refine wp_skip ?_
      refine then_n ?_
      refine wp_seq ?_
      refine reg_seq ?_
      refine s_move f (g_none rfl) rfl rfl ?_; clear f a; intro a f
      refine s_bin f (g_none rfl) rfl rfl rfl rfl ?_; clear f a; intro a f
      refine nil_then ?_
      by_cases hc19 : 256 ≤ ((n : Nat) : Int)
      · skip
        have hb20 : (decide (256 ≤ ((n : Nat) : Int))) = true := decide_eq_true hc19
        rw [hb20] at f
        refine c_true f rfl ?_
        refine reg_seq ?_
        refine s_move f (g_none rfl) rfl rfl ?_; clear f a; intro a f
        refine s_shr (r := ((n / 256 : Nat) : Int)) f (g_none rfl) rfl rfl rfl (by decide) (shr_nat _ 8 64 (by decide)) ?_; clear f a; intro a f
        refine s_assign f (g_none rfl) rfl rfl ?_; clear f a; intro a f
        refine nil_then ?_
        refine wp_region_lit ?_
        refine s_move f (g_none rfl) rfl rfl ?_; clear f a; intro a f
        refine s_bin f (g_none rfl) rfl rfl rfl (arith_add (r := ((0 + 8 : Nat) : Int)) (wrap_i64 (by omega) (by omega))) ?_; clear f a; intro a f
        refine s_assign f (g_none rfl) rfl rfl ?_; clear f a; intro a f
        refine wpList_nil ?_
        refine then_n ?_
        refine reg_seq ?_
        refine s_move f (g_none rfl) rfl rfl ?_; clear f a; intro a f
        refine s_move f (g_none rfl) rfl rfl ?_; clear f a; intro a f
        refine s_conv (r := (((UInt8.ofNat (n / 256)).toNat : Nat) : Int)) f (g_none rfl) rfl Try.underlying31 Try.underlying5 rfl (wrap_u8_ofNat _) ?_; clear f a; intro a f
        refine s_indexStr (c0 := UInt8.ofNat (bitLen (n / 256))) f (g_none rfl) rfl Try.underlying9 rfl rfl (by omega) (len8_get _ (by omega)) ?_; clear f a; intro a f
        refine s_conv (r := ((bitLen (n / 256) : Nat) : Int)) f (g_none rfl) rfl Try.underlying5 Try.underlying3 rfl (len8_conv _ (by omega)) ?_; clear f a; intro a f
        have hbl := bitLen_le (n / 256) 8 (by show _ < 256; omega)
        refine s_bin f (g_none rfl) rfl rfl rfl (arith_add (r := ((0 + 8 + (bitLen (n / 256)) : Nat) : Int)) (wrap_i64 (by omega) (by omega))) ?_; clear f a; intro a f
        refine s_assign f (g_none rfl) rfl rfl ?_; clear f a; intro a f
        refine nil_then ?_
        refine wp_ret ?_
        refine retG (vs := [.int .i64 ((0 + 8 + (bitLen (n / 256)) : Nat) : Int)]) f rfl ⟨rfl, trivial⟩ ?_
        have e8 : bitLen (n) = 8 + bitLen (n / 256) := bitLen_shift _ 8 (by omega)
        exact ⟨congrArg Ending.returned ((congrArg (Value.int .i64) (congrArg Nat.cast (by omega)))), rfl⟩
      · skip
        have hb21 : (decide (256 ≤ ((n : Nat) : Int))) = false := decide_eq_false hc19
        rw [hb21] at f
        refine c_false f rfl ?_
        refine wp_skip ?_
        refine then_n ?_
        refine reg_seq ?_
        refine s_move f (g_none rfl) rfl rfl ?_; clear f a; intro a f
        refine s_move f (g_none rfl) rfl rfl ?_; clear f a; intro a f
        refine s_conv (r := (((UInt8.ofNat n).toNat : Nat) : Int)) f (g_none rfl) rfl Try.underlying31 Try.underlying5 rfl (wrap_u8_ofNat _) ?_; clear f a; intro a f
        refine s_indexStr (c0 := UInt8.ofNat (bitLen (n))) f (g_none rfl) rfl Try.underlying9 rfl rfl (by omega) (len8_get _ (by omega)) ?_; clear f a; intro a f
        refine s_conv (r := ((bitLen (n) : Nat) : Int)) f (g_none rfl) rfl Try.underlying5 Try.underlying3 rfl (len8_conv _ (by omega)) ?_; clear f a; intro a f
        have hbl := bitLen_le (n) 8 (by show _ < 256; omega)
        refine s_bin f (g_none rfl) rfl rfl rfl (arith_add (r := ((0 + (bitLen (n)) : Nat) : Int)) (wrap_i64 (by omega) (by omega))) ?_; clear f a; intro a f
        refine s_assign f (g_none rfl) rfl rfl ?_; clear f a; intro a f
        refine nil_then ?_
        refine wp_ret ?_
        refine retG (vs := [.int .i64 ((0 + (bitLen (n)) : Nat) : Int)]) f rfl ⟨rfl, trivial⟩ ?_
        exact ⟨congrArg Ending.returned ((congrArg (Value.int .i64) (congrArg Nat.cast (by omega)))), rfl⟩

set_option maxRecDepth 100000 in
theorem number_calls (n : Nat) (hn : n < 18446744073709551616) (w : World)  :
    Calls Try.prog 31 #[.int .u64 ((n : Nat) : Int)] w (fun e w' => ∃ p : Option Addr, ∃ c : Nat, e = .returned (.slice p (numBytes n).length c) ∧ Ext w w' ∧ OwL bytesE w' w.heap.size 5 p c (numBytes n)) := by
  have hdl := digits_le n hn
  have hbl := bitLen_le n 64 hn
  refine enter (n := 39) (l := [(0, .int .u64 ((n : Nat) : Int))]) Try.func31 rfl rfl rfl rfl ?_; intro a f
  refine reg_seq ?_
  refine s_assign f (g_none rfl) rfl rfl ?_; clear f a; intro a f
  refine nil_then ?_
  refine wp_seq ?_
  refine reg_seq ?_
  refine s_move f (g_none rfl) rfl rfl ?_; clear f a; intro a f
  refine s_bin f (g_none rfl) rfl rfl rfl rfl ?_; clear f a; intro a f
  refine nil_then ?_
  by_cases hc1 : ((n : Nat) : Int) ≤ 247
  · skip
    have hb2 : (decide (((n : Nat) : Int) ≤ 247)) = true := decide_eq_true hc1
    rw [hb2] at f
    refine c_true f rfl ?_
    refine reg_seq ?_
    refine s_move f (g_none rfl) rfl rfl ?_; clear f a; intro a f
    refine s_conv (r := (((UInt8.ofNat n).toNat : Nat) : Int)) f (g_none rfl) rfl Try.underlying31 Try.underlying5 rfl (wrap_u8_ofNat _) ?_; clear f a; intro a f
    refine t_lit (E := bytesE) (l := ([UInt8.ofNat n] : List UInt8)) (B := w.heap.size) f (g_none rfl) rfl Try.underlying32 ti5 rfl (pt1 f rfl) (by decide) (fill_lit [.int .u8 (((UInt8.ofNat n).toNat : Nat) : Int)] rfl rfl (by simp [Value.cells])) rfl rfl (Nat.le_refl _) ?_; clear f a; intro a w8 p3 c4 f hx6 ho5 hn7
    have hE := hx6; clear hx6
    clear hn7
    refine s_assign f (g_none rfl) rfl rfl ?_; clear f a; intro a f
    refine nil_then ?_
    refine wp_ret ?_
    refine then_r ?_
    refine retG (vs := [.slice p3 ([UInt8.ofNat n] : List UInt8).length c4]) f rfl ⟨rfl, trivial⟩ ?_
    have hl9 : ([UInt8.ofNat n] : List UInt8) = numBytes n := by unfold numBytes; rw [if_pos (by omega)]
    exact ⟨p3, c4, congrArg Ending.returned ((congrArg (fun l : List UInt8 => Value.slice p3 l.length c4) hl9)), hE, (hl9 ▸ ho5)⟩
  · skip
    have hb10 : (decide (((n : Nat) : Int) ≤ 247)) = false := decide_eq_false hc1
    rw [hb10] at f
    refine c_false f rfl ?_
    refine wp_skip ?_
    refine then_n ?_
    refine reg_seq ?_
    refine s_move f (g_none rfl) rfl rfl ?_; clear f a; intro a f
    refine s_call f (g_none rfl) rfl Try.func100 rfl rfl (ev1 f rfl) (len64_calls (n := n) (hn := (by omega)) (w := _) ) ?_
    rintro _ _ ⟨rfl, rfl⟩; refine ⟨_, rfl, ?_⟩; clear f a; intro a f
    refine s_bin f (g_none rfl) rfl rfl rfl (arith_add (r := ((bitLen n + 7 : Nat) : Int)) (wrap_i64 (by omega) (by omega))) ?_; clear f a; intro a f
    refine s_quo (r := (((digits n).length : Nat) : Int)) f (g_none rfl) rfl rfl rfl (by omega) (by have h := quo_i64 (x := bitLen n + 7) (y := 8) (by omega) (by decide); rw [digits_len]; exact h) ?_; clear f a; intro a f
    refine s_assign f (g_none rfl) rfl rfl ?_; clear f a; intro a f
    refine nil_then ?_
    refine reg_seq ?_
    refine s_move f (g_none rfl) rfl rfl ?_; clear f a; intro a f
    refine s_bin f (g_none rfl) rfl rfl rfl (arith_add (r := (((digits n).length + 1 : Nat) : Int)) (wrap_i64 (by omega) (by omega))) ?_; clear f a; intro a f
    refine t_make (m := (digits n).length + 1) (E := bytesE) (l := List.replicate ((digits n).length + 1) (0 : UInt8)) (B := w.heap.size) f (g_none rfl) rfl Try.underlying32 ti5 rfl rfl rfl rfl (by omega) (by omega) (Nat.le_refl _) (by simp) (made_bytes _) ?_; clear f a; intro a w17 p12 c13 f hx15 ho14 hn16
    have hE := hx15; clear hx15
    clear hn16
    refine s_assign f (g_none rfl) rfl rfl ?_; clear f a; intro a f
    refine nil_then ?_
    refine reg_seq ?_
    refine s_move f (g_none rfl) rfl rfl ?_; clear f a; intro a f
    refine s_move f (g_none rfl) rfl rfl ?_; clear f a; intro a f
    refine s_bin f (g_none rfl) rfl rfl rfl (arith_add (r := ((247 + ((digits n).length) : Nat) : Int)) (wrap_i64 (by omega) (by omega))) ?_; clear f a; intro a f
    refine s_conv (r := (((UInt8.ofNat (247 + ((digits n).length))).toNat : Nat) : Int)) f (g_none rfl) rfl Try.underlying3 Try.underlying5 rfl (wrap_u8_ofNat _) ?_; clear f a; intro a f
    refine t_indexAddr (j := 0) (E := bytesE) f (g_none rfl) rfl Try.underlying32 ti5 rfl (ho14.rd) rfl rfl rfl (by simp) ?_; clear f a; intro a f
    refine t_store (j := 0) (e := UInt8.ofNat (247 + ((digits n).length))) (E := bytesE) (l' := fillNum n 0) f (g_none rfl) ti5 rfl rfl rfl ho14 rfl (by simp) (fillNum_zero n) ?_; intro w18 hg19 ho20 hl21
    replace hE := hE.gr hg19 (fun b e => (ho14.lt e).1)
    clear hg19
    clear ho14
    rw [← hl21] at f
    clear hl21
    refine nil_then ?_
    refine wp_seq ?_
    refine reg_seq ?_
    refine s_move f (g_none rfl) rfl rfl ?_; clear f a; intro a f
    refine s_move f (g_none rfl) rfl rfl ?_; clear f a; intro a f
    refine nil_then ?_
    refine wp_block ?_
    refine loop_ghost (α := Nat) (fun gg a wr => let i := gg; Frm 39 [(0, .int .u64 ((n : Nat) : Int)), (2, .slice none 0 0), (3, .int .i64 (((digits n).length : Nat) : Int)), (4, .slice p12 (fillNum n i).length c13), (23, .int .i64 (((digits n).length : Nat) : Int)), (24, .int .i64 ((i : Nat) : Int))] a ∧ Ext w wr ∧ OwL bytesE wr w.heap.size 5 p12 c13 (fillNum n i) ∧ i ≤ (digits n).length) (fun gg => let i := gg; (digits n).length - i) (0) ?_ ?_
    · skip
      exact ⟨(Frm.pick f (Frm.pick f (Frm.pick f (Frm.pick f (Frm.pick f (Frm.pick f f.nil rfl) rfl) rfl) rfl) rfl) rfl), hE, ho20, (by omega)⟩
    · skip
      clear f a
      clear ho20
      clear hE
      rintro i a wr ⟨f, hE, hw, hi⟩
      have hfl := fillNum_len n i hi
      refine reg_seq ?_
      refine s_bin f (g_none rfl) rfl rfl rfl rfl ?_; clear f a; intro a f
      refine nil_then ?_
      refine wp_seq ?_
      by_cases hc23 : ((i : Nat) : Int) < (((digits n).length : Nat) : Int)
      · skip
        have hb24 : (decide (((i : Nat) : Int) < (((digits n).length : Nat) : Int))) = true := decide_eq_true hc23
        rw [hb24] at f
        refine c_true f rfl ?_
        refine wp_skip ?_
        refine then_n ?_
        refine wp_seq ?_
        refine wp_block ?_
        refine reg_seq ?_
        refine s_move f (g_none rfl) rfl rfl ?_; clear f a; intro a f
        refine s_assign f (g_none rfl) rfl rfl ?_; clear f a; intro a f
        refine nil_then ?_
        refine wp_region_lit ?_
        refine s_move f (g_none rfl) rfl rfl ?_; clear f a; intro a f
        refine s_move f (g_none rfl) rfl rfl ?_; clear f a; intro a f
        refine s_move f (g_none rfl) rfl rfl ?_; clear f a; intro a f
        refine s_bin f (g_none rfl) rfl rfl rfl (arith_sub (r := ((((digits n).length) - i : Nat) : Int)) (wrap_i64 (by omega) (by omega))) ?_; clear f a; intro a f
        refine s_move f (g_none rfl) rfl rfl ?_; clear f a; intro a f
        refine s_move f (g_none rfl) rfl rfl ?_; clear f a; intro a f
        refine s_bin f (g_none rfl) rfl rfl rfl (arith_mul (r := ((8 * i : Nat) : Int)) (wrap_i64 (by omega) (by omega))) ?_; clear f a; intro a f
        refine s_shr (r := ((n / 2 ^ (8 * i) : Nat) : Int)) f (g_none rfl) rfl rfl rfl (by omega) (shr_nat _ _ 64 (by omega)) ?_; clear f a; intro a f
        refine s_conv (r := (((UInt8.ofNat (n / 2 ^ (8 * i))).toNat : Nat) : Int)) f (g_none rfl) rfl Try.underlying31 Try.underlying5 rfl (wrap_u8_ofNat _) ?_; clear f a; intro a f
        refine t_indexAddr (j := ((digits n).length) - i) (E := bytesE) f (g_none rfl) rfl Try.underlying32 ti5 rfl (hw.rd) rfl rfl rfl (by rw [hfl]; omega) ?_; clear f a; intro a f
        refine t_store (j := ((digits n).length) - i) (e := UInt8.ofNat (n / 2 ^ (8 * i))) (E := bytesE) (l' := fillNum n (i + 1)) f (g_none rfl) ti5 rfl rfl rfl hw rfl (by rw [hfl]; omega) (fillNum_step n i (by omega)) ?_; intro w25 hg26 ho27 hl28
        replace hE := hE.gr hg26 (fun b e => (hw.lt e).1)
        clear hg26
        clear hw
        rw [← hl28] at f
        clear hl28
        refine wpList_nil ?_
        refine blk_n ?_
        refine then_n ?_
        refine wp_region_lit ?_
        refine s_bin f (g_none rfl) rfl rfl rfl (arith_add (r := ((i + 1 : Nat) : Int)) (wrap_i64 (by omega) (by omega))) ?_; clear f a; intro a f
        refine s_move f (g_none rfl) rfl rfl ?_; clear f a; intro a f
        refine wpList_nil ?_
        refine then_n ?_
        refine ⟨(i + 1), ?_, ?_⟩
        · skip
          exact ⟨(Frm.pick f (Frm.pick f (Frm.pick f (Frm.pick f (Frm.pick f (Frm.pick f f.nil rfl) rfl) rfl) rfl) rfl) rfl), hE, ho27, (by omega)⟩
        · show (digits n).length - (i + 1) < (digits n).length - i; omega
      · skip
        have hb29 : (decide (((i : Nat) : Int) < (((digits n).length : Nat) : Int))) = false := decide_eq_false hc23
        rw [hb29] at f
        refine c_false f rfl ?_
        refine wp_exit ?_
        refine then_e ?_
        refine then_e ?_
        refine blk_e ?_
        refine then_n ?_
        refine reg_seq ?_
        refine s_move f (g_none rfl) rfl rfl ?_; clear f a; intro a f
        refine s_assign f (g_none rfl) rfl rfl ?_; clear f a; intro a f
        refine nil_then ?_
        refine wp_ret ?_
        refine retG (vs := [.slice p12 (fillNum n i).length c13]) f rfl ⟨rfl, trivial⟩ ?_
        have hl30 : fillNum n i = numBytes n := by rw [show i = (digits n).length by omega]; exact fillNum_last n (by omega)
        exact ⟨p12, c13, congrArg Ending.returned ((congrArg (fun l : List UInt8 => Value.slice p12 l.length c13) hl30)), hE, (hl30 ▸ hw)⟩

set_option maxRecDepth 100000 in
theorem rnumber_calls (n : Nat) (hn : n < 18446744073709551616) (w : World)  :
    Calls Try.prog 32 #[.int .u64 ((n : Nat) : Int)] w (fun e w' => ∃ p : Option Addr, ∃ c : Nat, e = .returned (.slice p (numBytes n).length c) ∧ Ext w w' ∧ OwL bytesE w' w.heap.size 5 p c (numBytes n)) := by
  have hdl := digits_le n hn
  refine enter (n := 41) (l := [(0, .int .u64 ((n : Nat) : Int))]) Try.func32 rfl rfl rfl rfl ?_; intro a f
  refine reg_seq ?_
  refine s_assign f (g_none rfl) rfl rfl ?_; clear f a; intro a f
  refine nil_then ?_
  refine wp_seq ?_
  refine reg_seq ?_
  refine s_move f (g_none rfl) rfl rfl ?_; clear f a; intro a f
  refine s_bin f (g_none rfl) rfl rfl rfl rfl ?_; clear f a; intro a f
  refine nil_then ?_
  by_cases hc1 : ((n : Nat) : Int) ≤ 247
  · skip
    have hb2 : (decide (((n : Nat) : Int) ≤ 247)) = true := decide_eq_true hc1
    rw [hb2] at f
    refine c_true f rfl ?_
    refine reg_seq ?_
    refine s_move f (g_none rfl) rfl rfl ?_; clear f a; intro a f
    refine s_conv (r := (((UInt8.ofNat n).toNat : Nat) : Int)) f (g_none rfl) rfl Try.underlying31 Try.underlying5 rfl (wrap_u8_ofNat _) ?_; clear f a; intro a f
    refine t_lit (E := bytesE) (l := ([UInt8.ofNat n] : List UInt8)) (B := w.heap.size) f (g_none rfl) rfl Try.underlying32 ti5 rfl (pt1 f rfl) (by decide) (fill_lit [.int .u8 (((UInt8.ofNat n).toNat : Nat) : Int)] rfl rfl (by simp [Value.cells])) rfl rfl (Nat.le_refl _) ?_; clear f a; intro a w8 p3 c4 f hx6 ho5 hn7
    have hE := hx6; clear hx6
    clear hn7
    refine s_assign f (g_none rfl) rfl rfl ?_; clear f a; intro a f
    refine nil_then ?_
    refine wp_ret ?_
    refine then_r ?_
    refine retG (vs := [.slice p3 ([UInt8.ofNat n] : List UInt8).length c4]) f rfl ⟨rfl, trivial⟩ ?_
    have hl9 : ([UInt8.ofNat n] : List UInt8) = numBytes n := by unfold numBytes; rw [if_pos (by omega)]
    exact ⟨p3, c4, congrArg Ending.returned ((congrArg (fun l : List UInt8 => Value.slice p3 l.length c4) hl9)), hE, (hl9 ▸ ho5)⟩
  · skip
    have hb10 : (decide (((n : Nat) : Int) ≤ 247)) = false := decide_eq_false hc1
    rw [hb10] at f
    refine c_false f rfl ?_
    refine wp_skip ?_
    refine then_n ?_
    refine reg_seq ?_
    refine s_assign f (g_none rfl) rfl rfl ?_; clear f a; intro a f
    refine nil_then ?_
    refine wp_seq ?_
    refine wp_block ?_
    refine loop_ghost (α := Nat × List UInt8 × Option Addr × Nat) (fun gg a wr => let ⟨m, ds, p, c⟩ := gg; Frm 41 [(0, .int .u64 ((m : Nat) : Int)), (2, .slice none 0 0), (3, .slice p ds.length c)] a ∧ Ext w wr ∧ OwL bytesE wr w.heap.size 5 p c ds ∧ digits n = ds ++ digits m ∧ m ≤ n) (fun gg => let ⟨m, ds, p, c⟩ := gg; m) (n, [], none, 0) ?_ ?_
    · skip
      exact ⟨(Frm.pick f (Frm.pick f (Frm.pick f f.nil rfl) rfl) rfl), Ext.rfl', OwL.nil, rfl, (by omega)⟩
    · skip
      clear f a
      rintro ⟨m, ds, p, c⟩ a wr ⟨f, hE, hw, hd, hm⟩
      have hds := append_left_le hd
      have hml : m < 18446744073709551616 := by omega
      refine wp_seq ?_
      refine reg_seq ?_
      refine s_move f (g_none rfl) rfl rfl ?_; clear f a; intro a f
      refine s_bin f (g_none rfl) rfl rfl rfl rfl ?_; clear f a; intro a f
      refine nil_then ?_
      by_cases hc12 : 0 < ((m : Nat) : Int)
      · skip
        have hb13 : (decide (0 < ((m : Nat) : Int))) = true := decide_eq_true hc12
        rw [hb13] at f
        refine c_true f rfl ?_
        refine wp_skip ?_
        refine then_n ?_
        refine wp_block ?_
        refine reg_seq ?_
        refine s_move f (g_none rfl) rfl rfl ?_; clear f a; intro a f
        refine s_move f (g_none rfl) rfl rfl ?_; clear f a; intro a f
        refine s_rem (r := ((m % 256 : Nat) : Int)) f (g_none rfl) rfl rfl rfl (by omega) (rem_nat _ _) ?_; clear f a; intro a f
        refine s_conv (r := (((UInt8.ofNat (m % 256)).toNat : Nat) : Int)) f (g_none rfl) rfl Try.underlying31 Try.underlying5 rfl (wrap_u8_ofNat _) ?_; clear f a; intro a f
        refine t_lit (E := bytesE) (l := [UInt8.ofNat (m % 256)]) (B := w.heap.size) f (g_none rfl) rfl Try.underlying32 ti5 rfl (pt1 f rfl) (by decide) (fill_lit [.int .u8 (((UInt8.ofNat (m % 256)).toNat : Nat) : Int)] rfl rfl (by simp [Value.cells])) rfl rfl (hE.size) ?_; clear f a; intro a w19 p14 c15 f hx17 ho16 hn18
        have hs20 : ∀ b, sblk p14 = some b → sblk p ≠ some b := fun b e1 e2 => by have h1 := hn18 _ e1; have h2 := (hw.lt e2).2; omega
        replace hw := hw.ext hx17
        replace hE := hE.tr hx17
        clear hx17
        clear hn18
        refine t_append (E := bytesE) (l := ds) (m := [UInt8.ofNat (m % 256)]) (lm := ds ++ [UInt8.ofNat (m % 256)]) (B := w.heap.size) f (g_none rfl) rfl Try.underlying32 ti5 rfl rfl rfl hw (ho16.rd) (by simp; omega) (by simp; omega) (hE.size) rfl ?_; clear f a; intro a w26 p21 c22 f ho23 hg24 hn25
        have hs27 : ∀ b, sblk p21 = some b → sblk p14 ≠ some b := fun b e1 e2 => (hn25 _ e1).elim (fun h1 => (by have h3 := hs20; first | exact h3 b h1 e2 | exact h3 b e2 h1)) (fun h1 => by have h2 := (ho16.lt e2).2; omega)
        replace ho16 := ho16.gr' hg24 (by intro b e e2; first | exact hs20 b e e2 | exact hs20 b e2 e)
        replace hE := hE.gr hg24 (fun b e => (hw.lt e).1)
        clear hg24
        clear hw
        clear hn25
        refine s_assign f (g_none rfl) rfl rfl ?_; clear f a; intro a f
        refine nil_then ?_
        refine wp_region_lit ?_
        refine s_move f (g_none rfl) rfl rfl ?_; clear f a; intro a f
        refine s_quo (r := ((m / 256 : Nat) : Int)) f (g_none rfl) rfl rfl rfl (by omega) (quo_u64 (x := m) (y := 256) (by omega) (by omega)) ?_; clear f a; intro a f
        refine s_assign f (g_none rfl) rfl rfl ?_; clear f a; intro a f
        refine wpList_nil ?_
        refine blk_n ?_
        refine then_n ?_
        refine ⟨(m / 256, ds ++ [UInt8.ofNat (m % 256)], p21, c22), ?_, ?_⟩
        · skip
          exact ⟨(Frm.pick f (Frm.pick f (Frm.pick f f.nil rfl) rfl) rfl), hE, ho23, (digits_split n m ds (by omega) hd), (by omega)⟩
        · show (m / 256) < m; omega
      · skip
        have hb28 : (decide (0 < ((m : Nat) : Int))) = false := decide_eq_false hc12
        rw [hb28] at f
        refine c_false f rfl ?_
        refine wp_exit ?_
        refine then_e ?_
        refine then_e ?_
        refine blk_e ?_
        refine then_n ?_
        refine reg_seq ?_
        have hdn : digits n = ds := by rw [hd, show m = 0 by omega, digits_zero, List.append_nil]
        refine s_move f (g_none rfl) rfl rfl ?_; clear f a; intro a f
        refine t_len f (g_none rfl) rfl rfl Try.underlying32 rfl ?_; clear f a; intro a f
        refine s_bin f (g_none rfl) rfl rfl rfl (arith_add (r := ((247 + ds.length : Nat) : Int)) (wrap_i64 (by omega) (by omega))) ?_; clear f a; intro a f
        refine s_conv (r := (((UInt8.ofNat (247 + ds.length)).toNat : Nat) : Int)) f (g_none rfl) rfl Try.underlying3 Try.underlying5 rfl (wrap_u8_ofNat _) ?_; clear f a; intro a f
        refine t_lit (E := bytesE) (l := ([UInt8.ofNat (247 + ds.length)] : List UInt8)) (B := w.heap.size) f (g_none rfl) rfl Try.underlying32 ti5 rfl (pt1 f rfl) (by decide) (fill_lit [.int .u8 (((UInt8.ofNat (247 + ds.length)).toNat : Nat) : Int)] rfl rfl (by simp [Value.cells])) rfl rfl (hE.size) ?_; clear f a; intro a w34 p29 c30 f hx32 ho31 hn33
        have hs35 : ∀ b, sblk p29 = some b → sblk p ≠ some b := fun b e1 e2 => by have h1 := hn33 _ e1; have h2 := (hw.lt e2).2; omega
        replace hw := hw.ext hx32
        replace hE := hE.tr hx32
        clear hx32
        clear hn33
        refine s_assign f (g_none rfl) rfl rfl ?_; clear f a; intro a f
        refine nil_then ?_
        refine wp_seq ?_
        refine reg_seq ?_
        refine s_move f (g_none rfl) rfl rfl ?_; clear f a; intro a f
        refine t_len f (g_none rfl) rfl rfl Try.underlying32 rfl ?_; clear f a; intro a f
        refine s_bin f (g_none rfl) rfl rfl rfl (arith_sub (r := ((ds.length : Nat) : Int) - 1) (wrap_i64 (by omega) (by omega))) ?_; clear f a; intro a f
        refine s_assign f (g_none rfl) rfl rfl ?_; clear f a; intro a f
        refine nil_then ?_
        refine wp_block ?_
        refine loop_ghost (α := Nat × Option Addr × Nat) (fun gg a wr => let ⟨j, q, cq⟩ := gg; Frm 41 [(0, .int .u64 ((m : Nat) : Int)), (2, .slice none 0 0), (3, .slice p ds.length c), (4, .slice q (UInt8.ofNat (247 + ds.length) :: (ds.drop j).reverse).length cq), (5, .int .i64 (((j : Nat) : Int) - 1))] a ∧ Ext w wr ∧ OwL bytesE wr w.heap.size 5 p c ds ∧ OwL bytesE wr w.heap.size 5 q cq (UInt8.ofNat (247 + ds.length) :: (ds.drop j).reverse) ∧ (∀ b, sblk p = some b → sblk q ≠ some b) ∧ j ≤ ds.length) (fun gg => let ⟨j, q, cq⟩ := gg; j) (ds.length, p29, c30) ?_ ?_
        · skip
          exact ⟨(Frm.pick f (Frm.pick f (Frm.pick f (Frm.pick f (Frm.pick f f.nil (look_eq rfl (congrArg (Value.int .i64) (by omega)))) (look_eq rfl (by rw [List.drop_length]; rfl))) rfl) rfl) rfl), hE, hw, (by rw [List.drop_length]; exact ho31), (by intro b h1 h2; have h3 := (hw.lt h1); exact (hs35 b h2 h1)), (by omega)⟩
        · skip
          clear f a
          clear hw
          clear ho31
          clear hE
          rintro ⟨j, q, cq⟩ a wr ⟨f, hE, hw, hw2, hs37, hj⟩
          refine wp_seq ?_
          refine reg_seq ?_
          refine s_move f (g_none rfl) rfl rfl ?_; clear f a; intro a f
          refine s_bin f (g_none rfl) rfl rfl rfl rfl ?_; clear f a; intro a f
          refine nil_then ?_
          by_cases hc38 : 0 ≤ ((j : Nat) : Int) - 1
          · skip
            have hb39 : (decide (0 ≤ ((j : Nat) : Int) - 1)) = true := decide_eq_true hc38
            rw [hb39] at f
            refine c_true f rfl ?_
            refine wp_skip ?_
            refine then_n ?_
            refine wp_seq ?_
            refine wp_block ?_
            refine wp_region_lit ?_
            refine s_move f (g_none rfl) rfl rfl ?_; clear f a; intro a f
            refine s_move f (g_none rfl) rfl rfl ?_; clear f a; intro a f
            refine s_move f (g_none rfl) rfl rfl ?_; clear f a; intro a f
            refine t_indexAddr (j := j - 1) (E := bytesE) f (g_none rfl) rfl Try.underlying32 ti5 rfl (hw.rd) rfl rfl (by omega) (by omega) ?_; clear f a; intro a f
            refine t_load (j := j - 1) (e := ds.getD (j - 1) 0) (E := bytesE) f (g_none rfl) rfl sc5 rfl (hw.rd) rfl (getD_some (by omega)) rfl ?_; clear f a; intro a f
            refine t_lit (E := bytesE) (l := ([ds.getD (j - 1) 0] : List UInt8)) (B := w.heap.size) f (g_none rfl) rfl Try.underlying32 ti5 rfl (pt1 f rfl) (by decide) (fill_lit [.int .u8 (((ds.getD (j - 1) 0).toNat : Nat) : Int)] rfl rfl (by simp [Value.cells])) rfl rfl (hE.size) ?_; clear f a; intro a w45 p40 c41 f hx43 ho42 hn44
            have hs46 : ∀ b, sblk p40 = some b → sblk p ≠ some b := fun b e1 e2 => by have h1 := hn44 _ e1; have h2 := (hw.lt e2).2; omega
            have hs47 : ∀ b, sblk p40 = some b → sblk q ≠ some b := fun b e1 e2 => by have h1 := hn44 _ e1; have h2 := (hw2.lt e2).2; omega
            replace hw := hw.ext hx43
            replace hw2 := hw2.ext hx43
            replace hE := hE.tr hx43
            clear hx43
            clear hn44
            refine t_append (E := bytesE) (l := (UInt8.ofNat (247 + ds.length) :: (ds.drop j).reverse)) (m := ([ds.getD (j - 1) 0] : List UInt8)) (lm := (UInt8.ofNat (247 + ds.length) :: (ds.drop j).reverse) ++ ([ds.getD (j - 1) 0] : List UInt8)) (B := w.heap.size) f (g_none rfl) rfl Try.underlying32 ti5 rfl rfl rfl hw2 (ho42.rd) (by simp; omega) (by simp; omega) (hE.size) rfl ?_; clear f a; intro a w53 p48 c49 f ho50 hg51 hn52
            have hs54 : ∀ b, sblk p48 = some b → sblk p ≠ some b := fun b e1 e2 => (hn52 _ e1).elim (fun h1 => (by have h3 := hs37; first | exact h3 b h1 e2 | exact h3 b e2 h1)) (fun h1 => by have h2 := (hw.lt e2).2; omega)
            have hs55 : ∀ b, sblk p48 = some b → sblk p40 ≠ some b := fun b e1 e2 => (hn52 _ e1).elim (fun h1 => (by have h3 := hs47; first | exact h3 b h1 e2 | exact h3 b e2 h1)) (fun h1 => by have h2 := (ho42.lt e2).2; omega)
            replace hw := hw.gr' hg51 (by intro b e e2; first | exact hs37 b e e2 | exact hs37 b e2 e)
            replace ho42 := ho42.gr' hg51 (by intro b e e2; first | exact hs47 b e e2 | exact hs47 b e2 e)
            replace hE := hE.gr hg51 (fun b e => (hw2.lt e).1)
            clear hg51
            clear hw2
            clear hn52
            refine s_assign f (g_none rfl) rfl rfl ?_; clear f a; intro a f
            refine wpList_nil ?_
            refine blk_n ?_
            refine then_n ?_
            refine wp_region_lit ?_
            refine s_move f (g_none rfl) rfl rfl ?_; clear f a; intro a f
            refine s_bin f (g_none rfl) rfl rfl rfl (arith_sub (r := (((j : Nat) : Int) - 1) - 1) (wrap_i64 (by omega) (by omega))) ?_; clear f a; intro a f
            refine s_assign f (g_none rfl) rfl rfl ?_; clear f a; intro a f
            refine wpList_nil ?_
            refine then_n ?_
            obtain ⟨k, rfl⟩ : ∃ k, j = k + 1 := ⟨j - 1, by omega⟩
            have hl := drop_rev ds (247 + ds.length) k (by omega)
            refine ⟨(k, p48, c49), ?_, ?_⟩
            · skip
              exact ⟨(Frm.pick f (Frm.pick f (Frm.pick f (Frm.pick f (Frm.pick f f.nil (look_eq rfl (congrArg (Value.int .i64) (by omega)))) (look_eq rfl (by rw [show k + 1 - 1 = k from rfl, hl]))) rfl) rfl) rfl), hE, hw, (hl ▸ ho50), (by intro b e1 e2; first | exact hs54 b e1 e2 | exact hs54 b e2 e1), (by omega)⟩
            · show k < k + 1; omega
          · skip
            have hb56 : (decide (0 ≤ ((j : Nat) : Int) - 1)) = false := decide_eq_false hc38
            rw [hb56] at f
            refine c_false f rfl ?_
            refine wp_exit ?_
            refine then_e ?_
            refine then_e ?_
            refine blk_e ?_
            refine then_n ?_
            refine reg_seq ?_
            refine s_move f (g_none rfl) rfl rfl ?_; clear f a; intro a f
            refine s_assign f (g_none rfl) rfl rfl ?_; clear f a; intro a f
            refine nil_then ?_
            refine wp_ret ?_
            refine retG (vs := [.slice q (UInt8.ofNat (247 + ds.length) :: (ds.drop j).reverse).length cq]) f rfl ⟨rfl, trivial⟩ ?_
            have hl57 : (UInt8.ofNat (247 + ds.length) :: (ds.drop j).reverse) = numBytes n := by unfold numBytes; rw [if_neg (by omega), hdn]; simp [show j = 0 by omega]
            exact ⟨q, cq, congrArg Ending.returned ((congrArg (fun l : List UInt8 => Value.slice q l.length cq) hl57)), hE, (hl57 ▸ hw2)⟩

set_option maxRecDepth 100000 in
theorem same_calls (p : Option Addr) (x : List UInt8) (c : Nat) (q : Option Addr) (y : List UInt8) (d : Nat) (w : World) (hr0 : RdL bytesE w p c x) (hr1 : RdL bytesE w q d y) :
    Calls Try.prog 30 #[.slice p x.length c, .slice q y.length d] w (fun e w' => e = .returned (.bool (decide (x = y))) ∧ Ext w w') := by
  have hle0 := hr0.le
  have hle1 := hr1.le
  refine enter (n := 26) (l := [(0, .slice p x.length c), (1, .slice q y.length d)]) Try.func30 rfl rfl rfl rfl ?_; intro a f
  refine reg_seq ?_
  refine s_assign f (g_none rfl) rfl rfl ?_; clear f a; intro a f
  refine nil_then ?_
  refine wp_seq ?_
  refine reg_seq ?_
  refine s_move f (g_none rfl) rfl rfl ?_; clear f a; intro a f
  refine t_len f (g_none rfl) rfl rfl Try.underlying32 rfl ?_; clear f a; intro a f
  refine s_move f (g_none rfl) rfl rfl ?_; clear f a; intro a f
  refine t_len f (g_none rfl) rfl rfl Try.underlying32 rfl ?_; clear f a; intro a f
  refine s_bin (v := .bool (decide (((x.length : Nat) : Int) ≠ ((y.length : Nat) : Int)))) f (g_none rfl) rfl rfl rfl arith_neq ?_; clear f a; intro a f
  refine nil_then ?_
  by_cases hc1 : ((x.length : Nat) : Int) ≠ ((y.length : Nat) : Int)
  · skip
    have hb2 : (decide (((x.length : Nat) : Int) ≠ ((y.length : Nat) : Int))) = true := decide_eq_true hc1
    rw [hb2] at f
    have hne := hc1
    refine c_true f rfl ?_
    refine reg_seq ?_
    refine s_assign f (g_none rfl) rfl rfl ?_; clear f a; intro a f
    refine nil_then ?_
    refine wp_ret ?_
    refine then_r ?_
    refine retG (vs := [.bool false]) f rfl ⟨rfl, trivial⟩ ?_
    exact ⟨congrArg Ending.returned ((congrArg Value.bool ((decide_eq_false (fun e => hne (by rw [e]))).symm))), Ext.rfl'⟩
  · skip
    have hb3 : (decide (((x.length : Nat) : Int) ≠ ((y.length : Nat) : Int))) = false := decide_eq_false hc1
    rw [hb3] at f
    have hlen : x.length = y.length := by omega
    refine c_false f rfl ?_
    refine wp_skip ?_
    refine then_n ?_
    refine wp_seq ?_
    refine reg_seq ?_
    refine s_assign f (g_none rfl) rfl rfl ?_; clear f a; intro a f
    refine nil_then ?_
    refine wp_block ?_
    refine loop_ghost (α := Nat) (fun gg a wr => let i := gg; Frm 26 [(0, .slice p x.length c), (1, .slice q y.length d), (5, .int .i64 ((i : Nat) : Int))] a ∧ Ext w wr ∧ i ≤ x.length ∧ x.take i = y.take i) (fun gg => let i := gg; x.length - i) (0) ?_ ?_
    · skip
      exact ⟨(Frm.pick f (Frm.pick f (Frm.pick f f.nil rfl) rfl) rfl), Ext.rfl', (by omega), (by simp)⟩
    · skip
      clear f a
      rintro i a wr ⟨f, hE, hi, hxy⟩
      refine wp_seq ?_
      refine reg_seq ?_
      refine s_move f (g_none rfl) rfl rfl ?_; clear f a; intro a f
      refine s_move f (g_none rfl) rfl rfl ?_; clear f a; intro a f
      refine t_len f (g_none rfl) rfl rfl Try.underlying32 rfl ?_; clear f a; intro a f
      refine s_bin f (g_none rfl) rfl rfl rfl rfl ?_; clear f a; intro a f
      refine nil_then ?_
      by_cases hc5 : ((i : Nat) : Int) < ((x.length : Nat) : Int)
      · skip
        have hb6 : (decide (((i : Nat) : Int) < ((x.length : Nat) : Int))) = true := decide_eq_true hc5
        rw [hb6] at f
        refine c_true f rfl ?_
        refine wp_skip ?_
        refine then_n ?_
        refine wp_seq ?_
        refine wp_block ?_
        refine quiet_seq (w := wr) mixed (by kernel_rfl) ?_
        refine q_move f (g_none rfl) rfl rfl ?_; clear f a; intro a f
        refine q_move f (g_none rfl) rfl rfl ?_; clear f a; intro a f
        refine u_indexAddr (j := i) (E := bytesE) f (g_none rfl) rfl Try.underlying32 ti5 rfl (hr0.ext hE) rfl rfl rfl (by omega) ?_; clear f a; intro a f
        refine u_load (j := i) (e := x.getD i 0) (E := bytesE) f (g_none rfl) rfl sc5 rfl (hr0.ext hE) rfl (getD_some (by omega)) rfl ?_; clear f a; intro a f
        refine q_move f (g_none rfl) rfl rfl ?_; clear f a; intro a f
        refine q_move f (g_none rfl) rfl rfl ?_; clear f a; intro a f
        refine u_indexAddr (j := i) (E := bytesE) f (g_none rfl) rfl Try.underlying32 ti5 rfl (hr1.ext hE) rfl rfl rfl (by omega) ?_; clear f a; intro a f
        refine u_load (j := i) (e := y.getD i 0) (E := bytesE) f (g_none rfl) rfl sc5 rfl (hr1.ext hE) rfl (getD_some (by omega)) rfl ?_; clear f a; intro a f
        refine q_bin (v := .bool (decide ((((x.getD i 0).toNat : Nat) : Int) ≠ (((y.getD i 0).toNat : Nat) : Int)))) f (g_none rfl) rfl rfl rfl arith_neq ?_; clear f a; intro a f
        refine quiet_nil ?_; intro w8 hx7
        replace hE := hE.tr hx7
        clear hx7
        by_cases hc9 : (((x.getD i 0).toNat : Nat) : Int) ≠ (((y.getD i 0).toNat : Nat) : Int)
        · skip
          have hb10 : (decide ((((x.getD i 0).toNat : Nat) : Int) ≠ (((y.getD i 0).toNat : Nat) : Int))) = true := decide_eq_true hc9
          rw [hb10] at f
          have hne := hc9
          refine c_true f rfl ?_
          refine reg_seq ?_
          refine s_assign f (g_none rfl) rfl rfl ?_; clear f a; intro a f
          refine nil_then ?_
          refine wp_ret ?_
          refine blk_r ?_
          refine then_r ?_
          refine then_r ?_
          refine blk_r ?_
          refine then_r ?_
          refine retG (vs := [.bool false]) f rfl ⟨rfl, trivial⟩ ?_
          exact ⟨congrArg Ending.returned ((congrArg Value.bool ((decide_eq_false (fun e => hne (by rw [e]))).symm))), hE⟩
        · skip
          have hb11 : (decide ((((x.getD i 0).toNat : Nat) : Int) ≠ (((y.getD i 0).toNat : Nat) : Int))) = false := decide_eq_false hc9
          rw [hb11] at f
          have hb : x.getD i 0 = y.getD i 0 := UInt8.toNat_inj.1 (by omega)
          refine c_false f rfl ?_
          refine wp_skip ?_
          refine blk_n ?_
          refine then_n ?_
          refine wp_region_lit ?_
          refine s_move f (g_none rfl) rfl rfl ?_; clear f a; intro a f
          refine s_bin f (g_none rfl) rfl rfl rfl (arith_add (r := ((i + 1 : Nat) : Int)) (wrap_i64 (by omega) (by omega))) ?_; clear f a; intro a f
          refine s_assign f (g_none rfl) rfl rfl ?_; clear f a; intro a f
          refine wpList_nil ?_
          refine then_n ?_
          refine ⟨(i + 1), ?_, ?_⟩
          · skip
            exact ⟨(Frm.pick f (Frm.pick f (Frm.pick f f.nil rfl) rfl) rfl), hE, (by omega), (by rw [take_snoc (by omega), take_snoc (by omega), hxy, hb])⟩
          · show x.length - (i + 1) < x.length - i; omega
      · skip
        have hb12 : (decide (((i : Nat) : Int) < ((x.length : Nat) : Int))) = false := decide_eq_false hc5
        rw [hb12] at f
        refine c_false f rfl ?_
        refine wp_exit ?_
        refine then_e ?_
        refine then_e ?_
        refine blk_e ?_
        refine then_n ?_
        refine reg_seq ?_
        refine s_assign f (g_none rfl) rfl rfl ?_; clear f a; intro a f
        refine nil_then ?_
        refine wp_ret ?_
        refine retG (vs := [.bool true]) f rfl ⟨rfl, trivial⟩ ?_
        exact ⟨congrArg Ending.returned ((congrArg Value.bool ((decide_eq_true (by rw [List.take_of_length_le (by omega), List.take_of_length_le (by omega)] at hxy; exact hxy)).symm))), hE⟩

set_option maxRecDepth 100000 in
theorem starts_calls (p : Option Addr) (b : List UInt8) (c : Nat) (q : Option Addr) (h : List UInt8) (d : Nat) (w : World) (hr0 : RdL bytesE w p c b) (hr1 : RdL bytesE w q d h) :
    Calls Try.prog 99 #[.slice p b.length c, .slice q h.length d] w (fun e w' => e = .returned (.bool (decide (b.take h.length = h))) ∧ Ext w w') := by
  have hle0 := hr0.le
  have hle1 := hr1.le
  refine enter (n := 18) (l := [(0, .slice p b.length c), (1, .slice q h.length d)]) Try.func99 rfl rfl rfl rfl ?_; intro a f
  refine reg_seq ?_
  refine s_assign f (g_none rfl) rfl rfl ?_; clear f a; intro a f
  refine nil_then ?_
  refine reg_seq ?_
  refine s_move f (g_none rfl) rfl rfl ?_; clear f a; intro a f
  refine t_len f (g_none rfl) rfl rfl Try.underlying32 rfl ?_; clear f a; intro a f
  refine s_move f (g_none rfl) rfl rfl ?_; clear f a; intro a f
  refine t_len f (g_none rfl) rfl rfl Try.underlying32 rfl ?_; clear f a; intro a f
  refine s_bin f (g_none rfl) rfl rfl rfl rfl ?_; clear f a; intro a f
  refine s_move f (g_none rfl) rfl rfl ?_; clear f a; intro a f
  by_cases hc1 : ((h.length : Nat) : Int) ≤ ((b.length : Nat) : Int)
  · skip
    have hb2 : (decide (((h.length : Nat) : Int) ≤ ((b.length : Nat) : Int))) = true := decide_eq_true hc1
    rw [hb2] at f
    refine s_move f (g_yes f rfl rfl rfl) rfl rfl ?_; clear f a; intro a f
    refine s_move f (g_yes f rfl rfl rfl) rfl rfl ?_; clear f a; intro a f
    refine t_len f (g_yes f rfl rfl rfl) rfl rfl Try.underlying32 rfl ?_; clear f a; intro a f
    refine t_cut (i := 0) (j := h.length) (E := bytesE) (l' := b.take h.length) f (g_yes f rfl rfl rfl) rfl Try.underlying32 ti5 rfl hr0 (.inl ⟨rfl, rfl⟩) (.inr ⟨_, _, rfl, rfl⟩) (by omega) (by omega) (cut_hi _ _) ?_; clear f a; intro a p3 c4 f hs5 hq6
    have hr7 := hs5 _ hr0
    refine s_move f (g_yes f rfl rfl rfl) rfl rfl ?_; clear f a; intro a f
    refine s_call f (g_yes f rfl rfl rfl) rfl Try.func30 rfl rfl (ev2 f rfl rfl) (same_calls (p := p3) (x := b.take h.length) (c := c4) (q := q) (y := h) (d := d) (w := _) (hr0 := hr7) (hr1 := hr1)) ?_
    rintro _ w8 ⟨rfl, hx9⟩; refine ⟨_, rfl, ?_⟩; clear f a; intro a f
    have hE := hx9; clear hx9
    refine s_pick (r := .bool (decide ((b.take h.length) = h))) f (g_none rfl) rfl rfl rfl rfl rfl ?_; clear f a; intro a f
    refine s_assign f (g_none rfl) rfl rfl ?_; clear f a; intro a f
    refine nil_then ?_
    refine wp_ret ?_
    refine retG (vs := [.bool (decide ((b.take h.length) = h))]) f rfl ⟨rfl, trivial⟩ ?_
    exact ⟨congrArg Ending.returned (rfl), hE⟩
  · skip
    have hb10 : (decide (((h.length : Nat) : Int) ≤ ((b.length : Nat) : Int))) = false := decide_eq_false hc1
    rw [hb10] at f
    refine s_skip f (g_no f rfl rfl rfl) rfl ?_; clear f a; intro a f
    refine s_skip f (g_no f rfl rfl rfl) rfl ?_; clear f a; intro a f
    refine s_skip f (g_no f rfl rfl rfl) rfl ?_; clear f a; intro a f
    refine s_skip f (g_no f rfl rfl rfl) rfl ?_; clear f a; intro a f
    refine s_skip f (g_no f rfl rfl rfl) rfl ?_; clear f a; intro a f
    refine s_skip f (g_no f rfl rfl rfl) rfl ?_; clear f a; intro a f
    refine s_pick (r := .bool false) f (g_none rfl) rfl rfl rfl rfl rfl ?_; clear f a; intro a f
    refine s_assign f (g_none rfl) rfl rfl ?_; clear f a; intro a f
    refine nil_then ?_
    refine wp_ret ?_
    refine retG (vs := [.bool false]) f rfl ⟨rfl, trivial⟩ ?_
    exact ⟨congrArg Ending.returned ((congrArg Value.bool ((decide_eq_false (fun e => by have := congrArg List.length e; rw [List.length_take] at this; omega)).symm))), Ext.rfl'⟩

set_option maxRecDepth 100000 in
theorem readn_calls (p : Option Addr) (b : List UInt8) (c : Nat) (w : World) (hr0 : RdL bytesE w p c b) :
    Calls Try.prog 26 #[.slice p b.length c] w (fun e w' => e = .returned (.tuple #[.int .u64 (((readN b).1 : Nat) : Int), .int .i64 (((readN b).2.1 : Nat) : Int), .int .i64 (((readN b).2.2 : Nat) : Int)]) ∧ w = w') := by
  have hx0 := byte_lt (b.getD 0 0)
  have hle0 := hr0.le
  refine enter (n := 63) (l := [(0, .slice p b.length c)]) Try.func26 rfl rfl rfl rfl ?_; intro a f
  refine reg_seq ?_
  refine s_assign f (g_none rfl) rfl rfl ?_; clear f a; intro a f
  refine s_assign f (g_none rfl) rfl rfl ?_; clear f a; intro a f
  refine s_assign f (g_none rfl) rfl rfl ?_; clear f a; intro a f
  refine nil_then ?_
  refine wp_seq ?_
  refine reg_seq ?_
  refine s_move f (g_none rfl) rfl rfl ?_; clear f a; intro a f
  refine t_len f (g_none rfl) rfl rfl Try.underlying32 rfl ?_; clear f a; intro a f
  refine s_bin (v := .bool (decide (((b.length : Nat) : Int) = 0))) f (g_none rfl) rfl rfl rfl arith_eql ?_; clear f a; intro a f
  refine nil_then ?_
  by_cases hc1 : ((b.length : Nat) : Int) = 0
  · skip
    have hb2 : (decide (((b.length : Nat) : Int) = 0)) = true := decide_eq_true hc1
    rw [hb2] at f
    refine c_true f rfl ?_
    refine reg_seq ?_
    refine s_assign f (g_none rfl) rfl rfl ?_; clear f a; intro a f
    refine s_assign f (g_none rfl) rfl rfl ?_; clear f a; intro a f
    refine s_assign f (g_none rfl) rfl rfl ?_; clear f a; intro a f
    refine nil_then ?_
    refine wp_ret ?_
    refine then_r ?_
    refine retG (vs := [.int .u64 (0), .int .i64 (0), .int .i64 (12)]) f rfl ⟨rfl, rfl, rfl, trivial⟩ ?_
    have hbad : readN b = (0, 0, 12) := readN_none (readNum_nil (by omega))
    exact ⟨congrArg Ending.returned (tup3 (congrArg (Value.int .u64) (by rw [hbad] <;> rfl)) (congrArg (Value.int .i64) (by rw [hbad] <;> rfl)) (congrArg (Value.int .i64) (by rw [hbad] <;> rfl))), rfl⟩
  · skip
    have hb3 : (decide (((b.length : Nat) : Int) = 0)) = false := decide_eq_false hc1
    rw [hb3] at f
    refine c_false f rfl ?_
    refine wp_skip ?_
    refine then_n ?_
    refine wp_seq ?_
    refine reg_seq ?_
    refine s_move f (g_none rfl) rfl rfl ?_; clear f a; intro a f
    refine t_indexAddr (j := 0) (E := bytesE) f (g_none rfl) rfl Try.underlying32 ti5 rfl hr0 rfl rfl rfl (by omega) ?_; clear f a; intro a f
    refine t_load (j := 0) (e := b.getD 0 0) (E := bytesE) f (g_none rfl) rfl sc5 rfl hr0 rfl (getD_some (by omega)) rfl ?_; clear f a; intro a f
    refine s_bin f (g_none rfl) rfl rfl rfl rfl ?_; clear f a; intro a f
    refine nil_then ?_
    by_cases hc4 : (((b.getD 0 0).toNat : Nat) : Int) ≤ 247
    · skip
      have hb5 : (decide ((((b.getD 0 0).toNat : Nat) : Int) ≤ 247)) = true := decide_eq_true hc4
      rw [hb5] at f
      refine c_true f rfl ?_
      refine reg_seq ?_
      refine s_move f (g_none rfl) rfl rfl ?_; clear f a; intro a f
      refine t_indexAddr (j := 0) (E := bytesE) f (g_none rfl) rfl Try.underlying32 ti5 rfl hr0 rfl rfl rfl (by omega) ?_; clear f a; intro a f
      refine t_load (j := 0) (e := b.getD 0 0) (E := bytesE) f (g_none rfl) rfl sc5 rfl hr0 rfl (getD_some (by omega)) rfl ?_; clear f a; intro a f
      refine s_conv (r := (((b.getD 0 0).toNat : Nat) : Int)) f (g_none rfl) rfl Try.underlying5 Try.underlying31 rfl (wrap_u64 (by have := byte_lt (b.getD 0 0); omega) rfl) ?_; clear f a; intro a f
      refine s_assign f (g_none rfl) rfl rfl ?_; clear f a; intro a f
      refine s_assign f (g_none rfl) rfl rfl ?_; clear f a; intro a f
      refine s_assign f (g_none rfl) rfl rfl ?_; clear f a; intro a f
      refine nil_then ?_
      refine wp_ret ?_
      refine then_r ?_
      refine retG (vs := [.int .u64 (((b.getD 0 0).toNat : Nat) : Int), .int .i64 (1), .int .i64 (0)]) f rfl ⟨rfl, rfl, rfl, trivial⟩ ?_
      have hg := readN_some (readNum_small (b := b) (by omega) (by omega))
      exact ⟨congrArg Ending.returned (tup3 (congrArg (Value.int .u64) (by rw [hg] <;> rfl)) (congrArg (Value.int .i64) (by rw [hg] <;> rfl)) (congrArg (Value.int .i64) (by rw [hg] <;> rfl))), rfl⟩
    · skip
      have hb6 : (decide ((((b.getD 0 0).toNat : Nat) : Int) ≤ 247)) = false := decide_eq_false hc4
      rw [hb6] at f
      refine c_false f rfl ?_
      refine wp_skip ?_
      refine then_n ?_
      refine reg_seq ?_
      refine s_move f (g_none rfl) rfl rfl ?_; clear f a; intro a f
      refine t_indexAddr (j := 0) (E := bytesE) f (g_none rfl) rfl Try.underlying32 ti5 rfl hr0 rfl rfl rfl (by omega) ?_; clear f a; intro a f
      refine t_load (j := 0) (e := b.getD 0 0) (E := bytesE) f (g_none rfl) rfl sc5 rfl hr0 rfl (getD_some (by omega)) rfl ?_; clear f a; intro a f
      refine s_conv (r := (((b.getD 0 0).toNat : Nat) : Int)) f (g_none rfl) rfl Try.underlying5 Try.underlying3 rfl (wrap_i64 (by have := byte_lt (b.getD 0 0); omega) rfl) ?_; clear f a; intro a f
      refine s_bin f (g_none rfl) rfl rfl rfl (arith_sub (r := ((((b.getD 0 0).toNat) - 247 : Nat) : Int)) (wrap_i64 (by omega) (by omega))) ?_; clear f a; intro a f
      refine s_assign f (g_none rfl) rfl rfl ?_; clear f a; intro a f
      refine nil_then ?_
      refine wp_seq ?_
      refine reg_seq ?_
      refine s_move f (g_none rfl) rfl rfl ?_; clear f a; intro a f
      refine t_len f (g_none rfl) rfl rfl Try.underlying32 rfl ?_; clear f a; intro a f
      refine s_move f (g_none rfl) rfl rfl ?_; clear f a; intro a f
      refine s_bin f (g_none rfl) rfl rfl rfl rfl ?_; clear f a; intro a f
      refine s_move f (g_none rfl) rfl rfl ?_; clear f a; intro a f
      by_cases hc7 : ((b.length : Nat) : Int) ≤ ((((b.getD 0 0).toNat) - 247 : Nat) : Int)
      · skip
        have hb8 : (decide (((b.length : Nat) : Int) ≤ ((((b.getD 0 0).toNat) - 247 : Nat) : Int))) = true := decide_eq_true hc7
        rw [hb8] at f
        refine s_skip f (g_no f rfl rfl rfl) rfl ?_; clear f a; intro a f
        refine s_skip f (g_no f rfl rfl rfl) rfl ?_; clear f a; intro a f
        refine s_skip f (g_no f rfl rfl rfl) rfl ?_; clear f a; intro a f
        refine s_skip f (g_no f rfl rfl rfl) rfl ?_; clear f a; intro a f
        refine s_pick (r := .bool true) f (g_none rfl) rfl rfl rfl rfl rfl ?_; clear f a; intro a f
        refine s_move f (g_none rfl) rfl rfl ?_; clear f a; intro a f
        refine s_skip f (g_no f rfl rfl rfl) rfl ?_; clear f a; intro a f
        refine s_skip f (g_no f rfl rfl rfl) rfl ?_; clear f a; intro a f
        refine s_skip f (g_no f rfl rfl rfl) rfl ?_; clear f a; intro a f
        refine s_skip f (g_skip f rfl rfl rfl) rfl ?_; clear f a; intro a f
        refine s_skip f (g_skip f rfl rfl rfl) rfl ?_; clear f a; intro a f
        refine s_skip f (g_skip f rfl rfl rfl) rfl ?_; clear f a; intro a f
        refine s_skip f (g_skip f rfl rfl rfl) rfl ?_; clear f a; intro a f
        refine s_skip f (g_no f rfl rfl rfl) rfl ?_; clear f a; intro a f
        refine s_pick (r := .bool true) f (g_none rfl) rfl rfl rfl rfl rfl ?_; clear f a; intro a f
        refine nil_then ?_
        refine c_true f rfl ?_
        refine reg_seq ?_
        refine s_assign f (g_none rfl) rfl rfl ?_; clear f a; intro a f
        refine s_assign f (g_none rfl) rfl rfl ?_; clear f a; intro a f
        refine s_assign f (g_none rfl) rfl rfl ?_; clear f a; intro a f
        refine nil_then ?_
        refine wp_ret ?_
        refine then_r ?_
        refine retG (vs := [.int .u64 (0), .int .i64 (0), .int .i64 (12)]) f rfl ⟨rfl, rfl, rfl, trivial⟩ ?_
        have hbad : readN b = (0, 0, 12) := readN_none (readNum_bad (by omega) (by omega) (by omega))
        exact ⟨congrArg Ending.returned (tup3 (congrArg (Value.int .u64) (by rw [hbad] <;> rfl)) (congrArg (Value.int .i64) (by rw [hbad] <;> rfl)) (congrArg (Value.int .i64) (by rw [hbad] <;> rfl))), rfl⟩
      · skip
        have hb9 : (decide (((b.length : Nat) : Int) ≤ ((((b.getD 0 0).toNat) - 247 : Nat) : Int))) = false := decide_eq_false hc7
        rw [hb9] at f
        refine s_move f (g_yes f rfl rfl rfl) rfl rfl ?_; clear f a; intro a f
        refine t_indexAddr (j := 1) (E := bytesE) f (g_yes f rfl rfl rfl) rfl Try.underlying32 ti5 rfl hr0 rfl rfl rfl (by omega) ?_; clear f a; intro a f
        refine t_load (j := 1) (e := b.getD 1 0) (E := bytesE) f (g_yes f rfl rfl rfl) rfl sc5 rfl hr0 rfl (getD_some (by omega)) rfl ?_; clear f a; intro a f
        refine s_bin (v := .bool (decide ((((b.getD 1 0).toNat : Nat) : Int) = 0))) f (g_yes f rfl rfl rfl) rfl rfl rfl arith_eql ?_; clear f a; intro a f
        refine s_pick (r := .bool (decide ((((b.getD 1 0).toNat : Nat) : Int) = 0))) f (g_none rfl) rfl rfl rfl rfl rfl ?_; clear f a; intro a f
        refine s_move f (g_none rfl) rfl rfl ?_; clear f a; intro a f
        by_cases hc10 : (((b.getD 1 0).toNat : Nat) : Int) = 0
        · skip
          have hb11 : (decide ((((b.getD 1 0).toNat : Nat) : Int) = 0)) = true := decide_eq_true hc10
          rw [hb11] at f
          refine s_skip f (g_no f rfl rfl rfl) rfl ?_; clear f a; intro a f
          refine s_skip f (g_no f rfl rfl rfl) rfl ?_; clear f a; intro a f
          refine s_skip f (g_no f rfl rfl rfl) rfl ?_; clear f a; intro a f
          refine s_skip f (g_skip f rfl rfl rfl) rfl ?_; clear f a; intro a f
          refine s_skip f (g_skip f rfl rfl rfl) rfl ?_; clear f a; intro a f
          refine s_skip f (g_skip f rfl rfl rfl) rfl ?_; clear f a; intro a f
          refine s_skip f (g_skip f rfl rfl rfl) rfl ?_; clear f a; intro a f
          refine s_skip f (g_no f rfl rfl rfl) rfl ?_; clear f a; intro a f
          refine s_pick (r := .bool true) f (g_none rfl) rfl rfl rfl rfl rfl ?_; clear f a; intro a f
          refine nil_then ?_
          refine c_true f rfl ?_
          refine reg_seq ?_
          refine s_assign f (g_none rfl) rfl rfl ?_; clear f a; intro a f
          refine s_assign f (g_none rfl) rfl rfl ?_; clear f a; intro a f
          refine s_assign f (g_none rfl) rfl rfl ?_; clear f a; intro a f
          refine nil_then ?_
          refine wp_ret ?_
          refine then_r ?_
          refine retG (vs := [.int .u64 (0), .int .i64 (0), .int .i64 (12)]) f rfl ⟨rfl, rfl, rfl, trivial⟩ ?_
          have hbad : readN b = (0, 0, 12) := readN_none (readNum_bad (by omega) (by omega) (by omega))
          exact ⟨congrArg Ending.returned (tup3 (congrArg (Value.int .u64) (by rw [hbad] <;> rfl)) (congrArg (Value.int .i64) (by rw [hbad] <;> rfl)) (congrArg (Value.int .i64) (by rw [hbad] <;> rfl))), rfl⟩
        · skip
          have hb12 : (decide ((((b.getD 1 0).toNat : Nat) : Int) = 0)) = false := decide_eq_false hc10
          rw [hb12] at f
          refine s_move f (g_yes f rfl rfl rfl) rfl rfl ?_; clear f a; intro a f
          refine s_bin (v := .bool (decide (((((b.getD 0 0).toNat) - 247 : Nat) : Int) = 1))) f (g_yes f rfl rfl rfl) rfl rfl rfl arith_eql ?_; clear f a; intro a f
          refine s_move f (g_yes f rfl rfl rfl) rfl rfl ?_; clear f a; intro a f
          by_cases hc13 : ((((b.getD 0 0).toNat) - 247 : Nat) : Int) = 1
          · skip
            have hb14 : (decide (((((b.getD 0 0).toNat) - 247 : Nat) : Int) = 1)) = true := decide_eq_true hc13
            rw [hb14] at f
            refine s_move f (g_yes f rfl rfl rfl) rfl rfl ?_; clear f a; intro a f
            refine t_indexAddr (j := 1) (E := bytesE) f (g_yes f rfl rfl rfl) rfl Try.underlying32 ti5 rfl hr0 rfl rfl rfl (by omega) ?_; clear f a; intro a f
            refine t_load (j := 1) (e := b.getD 1 0) (E := bytesE) f (g_yes f rfl rfl rfl) rfl sc5 rfl hr0 rfl (getD_some (by omega)) rfl ?_; clear f a; intro a f
            refine s_bin f (g_yes f rfl rfl rfl) rfl rfl rfl rfl ?_; clear f a; intro a f
            refine s_pick (r := .bool (decide ((((b.getD 1 0).toNat : Nat) : Int) ≤ 247))) f (g_yes f rfl rfl rfl) rfl rfl rfl rfl rfl ?_; clear f a; intro a f
            refine s_pick (r := .bool (decide ((((b.getD 1 0).toNat : Nat) : Int) ≤ 247))) f (g_none rfl) rfl rfl rfl rfl rfl ?_; clear f a; intro a f
            refine nil_then ?_
            by_cases hc15 : (((b.getD 1 0).toNat : Nat) : Int) ≤ 247
            · skip
              have hb16 : (decide ((((b.getD 1 0).toNat : Nat) : Int) ≤ 247)) = true := decide_eq_true hc15
              rw [hb16] at f
              refine c_true f rfl ?_
              refine reg_seq ?_
              refine s_assign f (g_none rfl) rfl rfl ?_; clear f a; intro a f
              refine s_assign f (g_none rfl) rfl rfl ?_; clear f a; intro a f
              refine s_assign f (g_none rfl) rfl rfl ?_; clear f a; intro a f
              refine nil_then ?_
              refine wp_ret ?_
              refine then_r ?_
              refine retG (vs := [.int .u64 (0), .int .i64 (0), .int .i64 (12)]) f rfl ⟨rfl, rfl, rfl, trivial⟩ ?_
              have hbad : readN b = (0, 0, 12) := readN_none (readNum_bad (by omega) (by omega) (by omega))
              exact ⟨congrArg Ending.returned (tup3 (congrArg (Value.int .u64) (by rw [hbad] <;> rfl)) (congrArg (Value.int .i64) (by rw [hbad] <;> rfl)) (congrArg (Value.int .i64) (by rw [hbad] <;> rfl))), rfl⟩
            · skip
              have hb17 : (decide ((((b.getD 1 0).toNat : Nat) : Int) ≤ 247)) = false := decide_eq_false hc15
              rw [hb17] at f
              refine c_false f rfl ?_
              refine wp_skip ?_
              refine then_n ?_
              refine reg_seq ?_
              refine s_assign f (g_none rfl) rfl rfl ?_; clear f a; intro a f
              refine nil_then ?_
              refine wp_seq ?_
              refine reg_seq ?_
              refine s_move f (g_none rfl) rfl rfl ?_; clear f a; intro a f
              refine s_move f (g_none rfl) rfl rfl ?_; clear f a; intro a f
              refine s_bin f (g_none rfl) rfl rfl rfl (arith_add (r := ((((b.getD 0 0).toNat) - 247 + 1 : Nat) : Int)) (wrap_i64 (by omega) (by omega))) ?_; clear f a; intro a f
              obtain ⟨D, hD⟩ : ∃ D, (b.drop 1).take ((b.getD 0 0).toNat - 247) = D := ⟨_, rfl⟩
              have hDl : D.length = ((b.getD 0 0).toNat - 247) := by rw [← hD, List.length_take, List.length_drop]; omega
              refine t_cut (i := 1) (j := ((b.getD 0 0).toNat) - 247 + 1) (E := bytesE) (l' := D) f (g_none rfl) rfl Try.underlying32 ti5 rfl hr0 (.inr ⟨_, _, rfl, rfl⟩) (.inr ⟨_, _, rfl, rfl⟩) (by omega) (by omega) (by rw [Nat.add_sub_cancel]; exact hD) ?_; clear f a; intro a p18 c19 f hs20 hq21
              have hr22 := hs20 _ hr0
              refine t_len f (g_none rfl) rfl rfl Try.underlying32 rfl ?_; clear f a; intro a f
              refine s_move f (g_none rfl) rfl rfl ?_; clear f a; intro a f
              refine nil_then ?_
              refine wp_block ?_
              refine loop_ghost (α := Nat) (fun gg a wr => let i := gg; Frm 63 [(0, .slice p b.length c), (2, .int .u64 (0)), (3, .int .i64 (0)), (4, .int .i64 (0)), (5, .int .i64 ((((b.getD 0 0).toNat) - 247 : Nat) : Int)), (6, .int .u64 ((beVal (D.take i) : Nat) : Int)), (48, .slice p18 D.length c19), (49, .int .i64 ((D.length : Nat) : Int)), (50, .int .i64 ((i : Nat) : Int))] a ∧ wr = w ∧ i ≤ D.length) (fun gg => let i := gg; D.length - i) (0) ?_ ?_
              · skip
                exact ⟨(Frm.pick f (Frm.pick f (Frm.pick f (Frm.pick f (Frm.pick f (Frm.pick f (Frm.pick f (Frm.pick f (Frm.pick f f.nil rfl) rfl) rfl) rfl) rfl) rfl) rfl) rfl) rfl), rfl, (by omega)⟩
              · skip
                clear f a
                rintro i a wr ⟨f, rfl, hi⟩
                refine reg_seq ?_
                refine s_bin f (g_none rfl) rfl rfl rfl rfl ?_; clear f a; intro a f
                refine nil_then ?_
                refine wp_seq ?_
                by_cases hc24 : ((i : Nat) : Int) < ((D.length : Nat) : Int)
                · skip
                  have hb25 : (decide (((i : Nat) : Int) < ((D.length : Nat) : Int))) = true := decide_eq_true hc24
                  rw [hb25] at f
                  refine c_true f rfl ?_
                  refine wp_skip ?_
                  refine then_n ?_
                  refine wp_seq ?_
                  refine wp_block ?_
                  refine reg_seq ?_
                  refine t_indexAddr (j := i) (E := bytesE) f (g_none rfl) rfl Try.underlying32 ti5 rfl hr22 rfl rfl rfl (by omega) ?_; clear f a; intro a f
                  refine t_load (j := i) (e := D.getD i 0) (E := bytesE) f (g_none rfl) rfl sc5 rfl hr22 rfl (getD_some (by omega)) rfl ?_; clear f a; intro a f
                  refine s_assign f (g_none rfl) rfl rfl ?_; clear f a; intro a f
                  refine nil_then ?_
                  refine wp_region_lit ?_
                  refine s_move f (g_none rfl) rfl rfl ?_; clear f a; intro a f
                  have hbt := beVal_take_lt (l := D) (i := i) (by omega) (by omega)
                  refine s_shl (r := (((beVal (D.take i)) * 256 : Nat) : Int)) f (g_none rfl) rfl rfl rfl (by decide) (shl_u64 _ 8 (by decide) (by omega)) ?_; clear f a; intro a f
                  refine s_move f (g_none rfl) rfl rfl ?_; clear f a; intro a f
                  refine s_conv (r := (((D.getD i 0).toNat : Nat) : Int)) f (g_none rfl) rfl Try.underlying5 Try.underlying31 rfl (wrap_u64 (by have := byte_lt (D.getD i 0); omega) rfl) ?_; clear f a; intro a f
                  refine s_bits (r := ((256 * beVal (D.take i) + (D.getD i 0).toNat : Nat) : Int)) f (g_none rfl) rfl rfl rfl rfl (or_byte _ _ (by omega)) ?_; clear f a; intro a f
                  refine s_assign f (g_none rfl) rfl rfl ?_; clear f a; intro a f
                  refine wpList_nil ?_
                  refine blk_n ?_
                  refine then_n ?_
                  refine wp_region_lit ?_
                  refine s_bin f (g_none rfl) rfl rfl rfl (arith_add (r := ((i + 1 : Nat) : Int)) (wrap_i64 (by omega) (by omega))) ?_; clear f a; intro a f
                  refine s_move f (g_none rfl) rfl rfl ?_; clear f a; intro a f
                  refine wpList_nil ?_
                  refine then_n ?_
                  refine ⟨(i + 1), ?_, ?_⟩
                  · skip
                    exact ⟨(Frm.pick f (Frm.pick f (Frm.pick f (Frm.pick f (Frm.pick f (Frm.pick f (Frm.pick f (Frm.pick f (Frm.pick f f.nil rfl) rfl) rfl) (look_eq rfl (congrArg (Value.int .u64) (congrArg Nat.cast (beVal_take (by omega)).symm)))) rfl) rfl) rfl) rfl) rfl), rfl, (by omega)⟩
                  · show D.length - (i + 1) < D.length - i; omega
                · skip
                  have hb26 : (decide (((i : Nat) : Int) < ((D.length : Nat) : Int))) = false := decide_eq_false hc24
                  rw [hb26] at f
                  refine c_false f rfl ?_
                  refine wp_exit ?_
                  refine then_e ?_
                  refine then_e ?_
                  refine blk_e ?_
                  refine then_n ?_
                  refine reg_seq ?_
                  refine s_move f (g_none rfl) rfl rfl ?_; clear f a; intro a f
                  refine s_move f (g_none rfl) rfl rfl ?_; clear f a; intro a f
                  refine s_bin f (g_none rfl) rfl rfl rfl (arith_add (r := ((((b.getD 0 0).toNat) - 247 + 1 : Nat) : Int)) (wrap_i64 (by omega) (by omega))) ?_; clear f a; intro a f
                  refine s_assign f (g_none rfl) rfl rfl ?_; clear f a; intro a f
                  refine s_assign f (g_none rfl) rfl rfl ?_; clear f a; intro a f
                  refine s_assign f (g_none rfl) rfl rfl ?_; clear f a; intro a f
                  refine nil_then ?_
                  refine wp_ret ?_
                  refine retG (vs := [.int .u64 ((beVal (D.take i) : Nat) : Int), .int .i64 ((((b.getD 0 0).toNat) - 247 + 1 : Nat) : Int), .int .i64 (0)]) f rfl ⟨rfl, rfl, rfl, trivial⟩ ?_
                  have hg := readN_some (readNum_good (b := b) (by omega) (by omega) (by omega))
                  rw [hD] at hg
                  exact ⟨congrArg Ending.returned (tup3 (congrArg (Value.int .u64) (by rw [hg, show i = D.length by omega, List.take_length])) (congrArg (Value.int .i64) (by rw [hg])) (congrArg (Value.int .i64) (by rw [hg] <;> rfl))), rfl⟩
          · skip
            have hb27 : (decide (((((b.getD 0 0).toNat) - 247 : Nat) : Int) = 1)) = false := decide_eq_false hc13
            rw [hb27] at f
            refine s_skip f (g_no f rfl rfl rfl) rfl ?_; clear f a; intro a f
            refine s_skip f (g_no f rfl rfl rfl) rfl ?_; clear f a; intro a f
            refine s_skip f (g_no f rfl rfl rfl) rfl ?_; clear f a; intro a f
            refine s_skip f (g_no f rfl rfl rfl) rfl ?_; clear f a; intro a f
            refine s_pick (r := .bool false) f (g_yes f rfl rfl rfl) rfl rfl rfl rfl rfl ?_; clear f a; intro a f
            refine s_pick (r := .bool false) f (g_none rfl) rfl rfl rfl rfl rfl ?_; clear f a; intro a f
            refine nil_then ?_
            refine c_false f rfl ?_
            refine wp_skip ?_
            refine then_n ?_
            refine reg_seq ?_
            refine s_assign f (g_none rfl) rfl rfl ?_; clear f a; intro a f
            refine nil_then ?_
            refine wp_seq ?_
            refine reg_seq ?_
            refine s_move f (g_none rfl) rfl rfl ?_; clear f a; intro a f
            refine s_move f (g_none rfl) rfl rfl ?_; clear f a; intro a f
            refine s_bin f (g_none rfl) rfl rfl rfl (arith_add (r := ((((b.getD 0 0).toNat) - 247 + 1 : Nat) : Int)) (wrap_i64 (by omega) (by omega))) ?_; clear f a; intro a f
            obtain ⟨D, hD⟩ : ∃ D, (b.drop 1).take ((b.getD 0 0).toNat - 247) = D := ⟨_, rfl⟩
            have hDl : D.length = ((b.getD 0 0).toNat - 247) := by rw [← hD, List.length_take, List.length_drop]; omega
            refine t_cut (i := 1) (j := ((b.getD 0 0).toNat) - 247 + 1) (E := bytesE) (l' := D) f (g_none rfl) rfl Try.underlying32 ti5 rfl hr0 (.inr ⟨_, _, rfl, rfl⟩) (.inr ⟨_, _, rfl, rfl⟩) (by omega) (by omega) (by rw [Nat.add_sub_cancel]; exact hD) ?_; clear f a; intro a p28 c29 f hs30 hq31
            have hr32 := hs30 _ hr0
            refine t_len f (g_none rfl) rfl rfl Try.underlying32 rfl ?_; clear f a; intro a f
            refine s_move f (g_none rfl) rfl rfl ?_; clear f a; intro a f
            refine nil_then ?_
            refine wp_block ?_
            refine loop_ghost (α := Nat) (fun gg a wr => let i := gg; Frm 63 [(0, .slice p b.length c), (2, .int .u64 (0)), (3, .int .i64 (0)), (4, .int .i64 (0)), (5, .int .i64 ((((b.getD 0 0).toNat) - 247 : Nat) : Int)), (6, .int .u64 ((beVal (D.take i) : Nat) : Int)), (48, .slice p28 D.length c29), (49, .int .i64 ((D.length : Nat) : Int)), (50, .int .i64 ((i : Nat) : Int))] a ∧ wr = w ∧ i ≤ D.length) (fun gg => let i := gg; D.length - i) (0) ?_ ?_
            · skip
              exact ⟨(Frm.pick f (Frm.pick f (Frm.pick f (Frm.pick f (Frm.pick f (Frm.pick f (Frm.pick f (Frm.pick f (Frm.pick f f.nil rfl) rfl) rfl) rfl) rfl) rfl) rfl) rfl) rfl), rfl, (by omega)⟩
            · skip
              clear f a
              rintro i a wr ⟨f, rfl, hi⟩
              refine reg_seq ?_
              refine s_bin f (g_none rfl) rfl rfl rfl rfl ?_; clear f a; intro a f
              refine nil_then ?_
              refine wp_seq ?_
              by_cases hc34 : ((i : Nat) : Int) < ((D.length : Nat) : Int)
              · skip
                have hb35 : (decide (((i : Nat) : Int) < ((D.length : Nat) : Int))) = true := decide_eq_true hc34
                rw [hb35] at f
                refine c_true f rfl ?_
                refine wp_skip ?_
                refine then_n ?_
                refine wp_seq ?_
                refine wp_block ?_
                refine reg_seq ?_
                refine t_indexAddr (j := i) (E := bytesE) f (g_none rfl) rfl Try.underlying32 ti5 rfl hr32 rfl rfl rfl (by omega) ?_; clear f a; intro a f
                refine t_load (j := i) (e := D.getD i 0) (E := bytesE) f (g_none rfl) rfl sc5 rfl hr32 rfl (getD_some (by omega)) rfl ?_; clear f a; intro a f
                refine s_assign f (g_none rfl) rfl rfl ?_; clear f a; intro a f
                refine nil_then ?_
                refine wp_region_lit ?_
                refine s_move f (g_none rfl) rfl rfl ?_; clear f a; intro a f
                have hbt := beVal_take_lt (l := D) (i := i) (by omega) (by omega)
                refine s_shl (r := (((beVal (D.take i)) * 256 : Nat) : Int)) f (g_none rfl) rfl rfl rfl (by decide) (shl_u64 _ 8 (by decide) (by omega)) ?_; clear f a; intro a f
                refine s_move f (g_none rfl) rfl rfl ?_; clear f a; intro a f
                refine s_conv (r := (((D.getD i 0).toNat : Nat) : Int)) f (g_none rfl) rfl Try.underlying5 Try.underlying31 rfl (wrap_u64 (by have := byte_lt (D.getD i 0); omega) rfl) ?_; clear f a; intro a f
                refine s_bits (r := ((256 * beVal (D.take i) + (D.getD i 0).toNat : Nat) : Int)) f (g_none rfl) rfl rfl rfl rfl (or_byte _ _ (by omega)) ?_; clear f a; intro a f
                refine s_assign f (g_none rfl) rfl rfl ?_; clear f a; intro a f
                refine wpList_nil ?_
                refine blk_n ?_
                refine then_n ?_
                refine wp_region_lit ?_
                refine s_bin f (g_none rfl) rfl rfl rfl (arith_add (r := ((i + 1 : Nat) : Int)) (wrap_i64 (by omega) (by omega))) ?_; clear f a; intro a f
                refine s_move f (g_none rfl) rfl rfl ?_; clear f a; intro a f
                refine wpList_nil ?_
                refine then_n ?_
                refine ⟨(i + 1), ?_, ?_⟩
                · skip
                  exact ⟨(Frm.pick f (Frm.pick f (Frm.pick f (Frm.pick f (Frm.pick f (Frm.pick f (Frm.pick f (Frm.pick f (Frm.pick f f.nil rfl) rfl) rfl) (look_eq rfl (congrArg (Value.int .u64) (congrArg Nat.cast (beVal_take (by omega)).symm)))) rfl) rfl) rfl) rfl) rfl), rfl, (by omega)⟩
                · show D.length - (i + 1) < D.length - i; omega
              · skip
                have hb36 : (decide (((i : Nat) : Int) < ((D.length : Nat) : Int))) = false := decide_eq_false hc34
                rw [hb36] at f
                refine c_false f rfl ?_
                refine wp_exit ?_
                refine then_e ?_
                refine then_e ?_
                refine blk_e ?_
                refine then_n ?_
                refine reg_seq ?_
                refine s_move f (g_none rfl) rfl rfl ?_; clear f a; intro a f
                refine s_move f (g_none rfl) rfl rfl ?_; clear f a; intro a f
                refine s_bin f (g_none rfl) rfl rfl rfl (arith_add (r := ((((b.getD 0 0).toNat) - 247 + 1 : Nat) : Int)) (wrap_i64 (by omega) (by omega))) ?_; clear f a; intro a f
                refine s_assign f (g_none rfl) rfl rfl ?_; clear f a; intro a f
                refine s_assign f (g_none rfl) rfl rfl ?_; clear f a; intro a f
                refine s_assign f (g_none rfl) rfl rfl ?_; clear f a; intro a f
                refine nil_then ?_
                refine wp_ret ?_
                refine retG (vs := [.int .u64 ((beVal (D.take i) : Nat) : Int), .int .i64 ((((b.getD 0 0).toNat) - 247 + 1 : Nat) : Int), .int .i64 (0)]) f rfl ⟨rfl, rfl, rfl, trivial⟩ ?_
                have hg := readN_some (readNum_good (b := b) (by omega) (by omega) (by omega))
                rw [hD] at hg
                exact ⟨congrArg Ending.returned (tup3 (congrArg (Value.int .u64) (by rw [hg, show i = D.length by omega, List.take_length])) (congrArg (Value.int .i64) (by rw [hg])) (congrArg (Value.int .i64) (by rw [hg] <;> rfl))), rfl⟩

set_option maxRecDepth 100000 in
theorem rreadn_calls (p : Option Addr) (b : List UInt8) (c : Nat) (w : World) (hr0 : RdL bytesE w p c b) :
    Calls Try.prog 27 #[.slice p b.length c] w (fun e w' => e = .returned (.tuple #[.int .u64 (((readN b).1 : Nat) : Int), .int .i64 (((readN b).2.1 : Nat) : Int), .int .i64 (((readN b).2.2 : Nat) : Int)]) ∧ Ext w w') := by
  have hx0 := byte_lt (b.getD 0 0)
  have hrl := refNum_lt b
  have hle0 := hr0.le
  refine enter (n := 49) (l := [(0, .slice p b.length c)]) Try.func27 rfl rfl rfl rfl ?_; intro a f
  refine reg_seq ?_
  refine s_assign f (g_none rfl) rfl rfl ?_; clear f a; intro a f
  refine s_assign f (g_none rfl) rfl rfl ?_; clear f a; intro a f
  refine s_assign f (g_none rfl) rfl rfl ?_; clear f a; intro a f
  refine nil_then ?_
  refine wp_seq ?_
  refine reg_seq ?_
  refine s_move f (g_none rfl) rfl rfl ?_; clear f a; intro a f
  refine t_len f (g_none rfl) rfl rfl Try.underlying32 rfl ?_; clear f a; intro a f
  refine s_bin (v := .bool (decide (((b.length : Nat) : Int) = 0))) f (g_none rfl) rfl rfl rfl arith_eql ?_; clear f a; intro a f
  refine nil_then ?_
  by_cases hc1 : ((b.length : Nat) : Int) = 0
  · skip
    have hb2 : (decide (((b.length : Nat) : Int) = 0)) = true := decide_eq_true hc1
    rw [hb2] at f
    refine c_true f rfl ?_
    refine reg_seq ?_
    refine s_assign f (g_none rfl) rfl rfl ?_; clear f a; intro a f
    refine s_assign f (g_none rfl) rfl rfl ?_; clear f a; intro a f
    refine s_assign f (g_none rfl) rfl rfl ?_; clear f a; intro a f
    refine nil_then ?_
    refine wp_ret ?_
    refine then_r ?_
    refine retG (vs := [.int .u64 (0), .int .i64 (0), .int .i64 (12)]) f rfl ⟨rfl, rfl, rfl, trivial⟩ ?_
    have hbad : readN b = (0, 0, 12) := readN_none (readNum_nil (by omega))
    exact ⟨congrArg Ending.returned (tup3 (congrArg (Value.int .u64) (by rw [hbad] <;> rfl)) (congrArg (Value.int .i64) (by rw [hbad] <;> rfl)) (congrArg (Value.int .i64) (by rw [hbad] <;> rfl))), Ext.rfl'⟩
  · skip
    have hb3 : (decide (((b.length : Nat) : Int) = 0)) = false := decide_eq_false hc1
    rw [hb3] at f
    refine c_false f rfl ?_
    refine wp_skip ?_
    refine then_n ?_
    refine reg_seq ?_
    refine s_move f (g_none rfl) rfl rfl ?_; clear f a; intro a f
    refine t_indexAddr (j := 0) (E := bytesE) f (g_none rfl) rfl Try.underlying32 ti5 rfl hr0 rfl rfl rfl (by omega) ?_; clear f a; intro a f
    refine t_load (j := 0) (e := b.getD 0 0) (E := bytesE) f (g_none rfl) rfl sc5 rfl hr0 rfl (getD_some (by omega)) rfl ?_; clear f a; intro a f
    refine s_conv (r := (((b.getD 0 0).toNat : Nat) : Int)) f (g_none rfl) rfl Try.underlying5 Try.underlying31 rfl (wrap_u64 (by have := byte_lt (b.getD 0 0); omega) rfl) ?_; clear f a; intro a f
    refine s_assign f (g_none rfl) rfl rfl ?_; clear f a; intro a f
    refine nil_then ?_
    refine wp_seq ?_
    refine reg_seq ?_
    refine s_move f (g_none rfl) rfl rfl ?_; clear f a; intro a f
    refine s_bin f (g_none rfl) rfl rfl rfl rfl ?_; clear f a; intro a f
    refine nil_then ?_
    by_cases hc4 : 247 < (((b.getD 0 0).toNat : Nat) : Int)
    · skip
      have hb5 : (decide (247 < (((b.getD 0 0).toNat : Nat) : Int))) = true := decide_eq_true hc4
      rw [hb5] at f
      refine c_true f rfl ?_
      refine reg_seq ?_
      refine s_move f (g_none rfl) rfl rfl ?_; clear f a; intro a f
      refine s_conv (r := (((b.getD 0 0).toNat : Nat) : Int)) f (g_none rfl) rfl Try.underlying31 Try.underlying3 rfl (wrap_i64 (by have := byte_lt (b.getD 0 0); omega) rfl) ?_; clear f a; intro a f
      refine s_bin f (g_none rfl) rfl rfl rfl (arith_sub (r := ((((b.getD 0 0).toNat) - 247 : Nat) : Int)) (wrap_i64 (by omega) (by omega))) ?_; clear f a; intro a f
      refine s_assign f (g_none rfl) rfl rfl ?_; clear f a; intro a f
      refine nil_then ?_
      refine reg_seq ?_
      refine s_assign f (g_none rfl) rfl rfl ?_; clear f a; intro a f
      refine nil_then ?_
      refine reg_seq ?_
      refine s_assign f (g_none rfl) rfl rfl ?_; clear f a; intro a f
      refine nil_then ?_
      refine wp_block ?_
      refine loop_ghost (α := Nat) (fun gg a wr => let j := gg; Frm 49 [(0, .slice p b.length c), (2, .int .u64 (0)), (3, .int .i64 (0)), (4, .int .i64 (0)), (5, .int .u64 ((beVal ((b.drop 1).take j) : Nat) : Int)), (6, .int .i64 ((((b.getD 0 0).toNat) - 247 : Nat) : Int)), (7, .int .i64 ((j + 1 : Nat) : Int))] a ∧ wr = w ∧ j ≤ ((b.getD 0 0).toNat - 247) ∧ j + 1 ≤ b.length) (fun gg => let j := gg; b.length - j) (0) ?_ ?_
      · skip
        exact ⟨(Frm.pick f (Frm.pick f (Frm.pick f (Frm.pick f (Frm.pick f (Frm.pick f (Frm.pick f f.nil rfl) rfl) rfl) rfl) rfl) rfl) rfl), rfl, (by omega), (by omega)⟩
      · skip
        clear f a
        rintro j a wr ⟨f, rfl, hj, hj2⟩
        refine wp_seq ?_
        refine reg_seq ?_
        refine s_move f (g_none rfl) rfl rfl ?_; clear f a; intro a f
        refine s_move f (g_none rfl) rfl rfl ?_; clear f a; intro a f
        refine s_bin f (g_none rfl) rfl rfl rfl rfl ?_; clear f a; intro a f
        refine s_move f (g_none rfl) rfl rfl ?_; clear f a; intro a f
        by_cases hc7 : ((j + 1 : Nat) : Int) ≤ ((((b.getD 0 0).toNat) - 247 : Nat) : Int)
        · skip
          have hb8 : (decide (((j + 1 : Nat) : Int) ≤ ((((b.getD 0 0).toNat) - 247 : Nat) : Int))) = true := decide_eq_true hc7
          rw [hb8] at f
          refine s_move f (g_yes f rfl rfl rfl) rfl rfl ?_; clear f a; intro a f
          refine s_move f (g_yes f rfl rfl rfl) rfl rfl ?_; clear f a; intro a f
          refine t_len f (g_yes f rfl rfl rfl) rfl rfl Try.underlying32 rfl ?_; clear f a; intro a f
          refine s_bin f (g_yes f rfl rfl rfl) rfl rfl rfl rfl ?_; clear f a; intro a f
          refine s_pick (r := .bool (decide (((j + 1 : Nat) : Int) < ((b.length : Nat) : Int)))) f (g_none rfl) rfl rfl rfl rfl rfl ?_; clear f a; intro a f
          refine nil_then ?_
          by_cases hc9 : ((j + 1 : Nat) : Int) < ((b.length : Nat) : Int)
          · skip
            have hb10 : (decide (((j + 1 : Nat) : Int) < ((b.length : Nat) : Int))) = true := decide_eq_true hc9
            rw [hb10] at f
            refine c_true f rfl ?_
            refine wp_skip ?_
            refine then_n ?_
            refine wp_seq ?_
            refine wp_block ?_
            refine wp_region_lit ?_
            refine s_move f (g_none rfl) rfl rfl ?_; clear f a; intro a f
            have hbt := beVal_lt7 ((b.drop 1).take j) (by simp; omega)
            have hbj := byte_lt (b.getD (j + 1) 0)
            refine s_bin f (g_none rfl) rfl rfl rfl (arith_mul (r := ((256 * (beVal ((b.drop 1).take j)) : Nat) : Int)) (wrap_u64 (by omega) (by omega))) ?_; clear f a; intro a f
            refine s_move f (g_none rfl) rfl rfl ?_; clear f a; intro a f
            refine s_move f (g_none rfl) rfl rfl ?_; clear f a; intro a f
            refine t_indexAddr (j := j + 1) (E := bytesE) f (g_none rfl) rfl Try.underlying32 ti5 rfl hr0 rfl rfl rfl (by omega) ?_; clear f a; intro a f
            refine t_load (j := j + 1) (e := b.getD (j + 1) 0) (E := bytesE) f (g_none rfl) rfl sc5 rfl hr0 rfl (getD_some (by omega)) rfl ?_; clear f a; intro a f
            refine s_conv (r := (((b.getD (j + 1) 0).toNat : Nat) : Int)) f (g_none rfl) rfl Try.underlying5 Try.underlying31 rfl (wrap_u64 (by have := byte_lt (b.getD (j + 1) 0); omega) rfl) ?_; clear f a; intro a f
            refine s_bin f (g_none rfl) rfl rfl rfl (arith_add (r := ((256 * (beVal ((b.drop 1).take j)) + ((b.getD (j + 1) 0).toNat) : Nat) : Int)) (wrap_u64 (by omega) (by omega))) ?_; clear f a; intro a f
            refine s_assign f (g_none rfl) rfl rfl ?_; clear f a; intro a f
            refine wpList_nil ?_
            refine blk_n ?_
            refine then_n ?_
            refine wp_region_lit ?_
            refine s_move f (g_none rfl) rfl rfl ?_; clear f a; intro a f
            refine s_bin f (g_none rfl) rfl rfl rfl (arith_add (r := ((j + 1 + 1 : Nat) : Int)) (wrap_i64 (by omega) (by omega))) ?_; clear f a; intro a f
            refine s_assign f (g_none rfl) rfl rfl ?_; clear f a; intro a f
            refine wpList_nil ?_
            refine then_n ?_
            refine ⟨(j + 1), ?_, ?_⟩
            · skip
              exact ⟨(Frm.pick f (Frm.pick f (Frm.pick f (Frm.pick f (Frm.pick f (Frm.pick f (Frm.pick f f.nil rfl) rfl) (look_eq rfl (congrArg (Value.int .u64) (congrArg Nat.cast (beVal_drop_take (by omega)).symm)))) rfl) rfl) rfl) rfl), rfl, (by omega), (by omega)⟩
            · show b.length - (j + 1) < b.length - j; omega
          · skip
            have hb11 : (decide (((j + 1 : Nat) : Int) < ((b.length : Nat) : Int))) = false := decide_eq_false hc9
            rw [hb11] at f
            refine c_false f rfl ?_
            refine wp_exit ?_
            refine then_e ?_
            refine then_e ?_
            refine blk_e ?_
            refine then_n ?_
            refine reg_seq ?_
            have hN : beVal ((b.drop 1).take j) = refNum b := by unfold refNum; rw [if_neg (by omega), take_all_of (j := j) (k := ((b.getD 0 0).toNat - 247)) (by simp only [List.length_drop]; omega)]
            rw [hN] at f
            refine s_move f (g_none rfl) rfl rfl ?_; clear f a; intro a f
            refine s_call f (g_none rfl) rfl Try.func32 rfl rfl (ev1 f rfl) (rnumber_calls (n := refNum b) (hn := (by omega)) (w := _) ) ?_
            rintro _ w12 ⟨p13, c14, rfl, hx15, ho16⟩; refine ⟨_, rfl, ?_⟩; clear f a; intro a f
            replace ho16 := ho16.mono (Nat.le_refl _)
            have hE := hx15; clear hx15
            refine s_assign f (g_none rfl) rfl rfl ?_; clear f a; intro a f
            refine nil_then ?_
            refine wp_seq ?_
            refine reg_seq ?_
            refine s_move f (g_none rfl) rfl rfl ?_; clear f a; intro a f
            refine s_move f (g_none rfl) rfl rfl ?_; clear f a; intro a f
            refine s_call f (g_none rfl) rfl Try.func99 rfl rfl (ev2 f rfl rfl) (starts_calls (p := p) (b := b) (c := c) (q := p13) (h := numBytes (refNum b)) (d := c14) (w := _) (hr0 := (hr0.ext hE)) (hr1 := (ho16.rd))) ?_
            rintro _ w17 ⟨rfl, hx18⟩; refine ⟨_, rfl, ?_⟩; clear f a; intro a f
            replace ho16 := ho16.ext hx18
            replace hE := hE.tr hx18
            clear hx18
            refine s_not f (g_none rfl) rfl rfl ?_; clear f a; intro a f
            rw [← decide_not] at f
            refine nil_then ?_
            by_cases hc19 : ¬ (b.take (numBytes (refNum b)).length = (numBytes (refNum b)))
            · skip
              have hb20 : (decide (¬ (b.take (numBytes (refNum b)).length = (numBytes (refNum b))))) = true := decide_eq_true hc19
              rw [hb20] at f
              have hst := hc19
              refine c_true f rfl ?_
              refine reg_seq ?_
              refine s_assign f (g_none rfl) rfl rfl ?_; clear f a; intro a f
              refine s_assign f (g_none rfl) rfl rfl ?_; clear f a; intro a f
              refine s_assign f (g_none rfl) rfl rfl ?_; clear f a; intro a f
              refine nil_then ?_
              refine wp_ret ?_
              refine then_r ?_
              refine retG (vs := [.int .u64 (0), .int .i64 (0), .int .i64 (12)]) f rfl ⟨rfl, rfl, rfl, trivial⟩ ?_
              have hbad := readNum_ref_no (b := b) (by omega) hst
              exact ⟨congrArg Ending.returned (tup3 (congrArg (Value.int .u64) (by rw [hbad] <;> rfl)) (congrArg (Value.int .i64) (by rw [hbad] <;> rfl)) (congrArg (Value.int .i64) (by rw [hbad] <;> rfl))), hE⟩
            · skip
              have hb21 : (decide (¬ (b.take (numBytes (refNum b)).length = (numBytes (refNum b))))) = false := decide_eq_false hc19
              rw [hb21] at f
              have hst := hc19
              refine c_false f rfl ?_
              refine wp_skip ?_
              refine then_n ?_
              refine reg_seq ?_
              refine s_move f (g_none rfl) rfl rfl ?_; clear f a; intro a f
              refine s_move f (g_none rfl) rfl rfl ?_; clear f a; intro a f
              refine t_len f (g_none rfl) rfl rfl Try.underlying32 rfl ?_; clear f a; intro a f
              refine s_assign f (g_none rfl) rfl rfl ?_; clear f a; intro a f
              refine s_assign f (g_none rfl) rfl rfl ?_; clear f a; intro a f
              refine s_assign f (g_none rfl) rfl rfl ?_; clear f a; intro a f
              refine nil_then ?_
              refine wp_ret ?_
              refine retG (vs := [.int .u64 ((refNum b : Nat) : Int), .int .i64 (((numBytes (refNum b)).length : Nat) : Int), .int .i64 (0)]) f rfl ⟨rfl, rfl, rfl, trivial⟩ ?_
              have hg := readNum_ref_yes (b := b) (Classical.not_not.1 hst)
              exact ⟨congrArg Ending.returned (tup3 (congrArg (Value.int .u64) (by rw [hg])) (congrArg (Value.int .i64) (by rw [hg])) (congrArg (Value.int .i64) (by rw [hg] <;> rfl))), hE⟩
        · skip
          have hb22 : (decide (((j + 1 : Nat) : Int) ≤ ((((b.getD 0 0).toNat) - 247 : Nat) : Int))) = false := decide_eq_false hc7
          rw [hb22] at f
          refine s_skip f (g_no f rfl rfl rfl) rfl ?_; clear f a; intro a f
          refine s_skip f (g_no f rfl rfl rfl) rfl ?_; clear f a; intro a f
          refine s_skip f (g_no f rfl rfl rfl) rfl ?_; clear f a; intro a f
          refine s_skip f (g_no f rfl rfl rfl) rfl ?_; clear f a; intro a f
          refine s_pick (r := .bool false) f (g_none rfl) rfl rfl rfl rfl rfl ?_; clear f a; intro a f
          refine nil_then ?_
          refine c_false f rfl ?_
          refine wp_exit ?_
          refine then_e ?_
          refine then_e ?_
          refine blk_e ?_
          refine then_n ?_
          refine reg_seq ?_
          have hN : beVal ((b.drop 1).take j) = refNum b := by unfold refNum; rw [if_neg (by omega), take_all_of (j := j) (k := ((b.getD 0 0).toNat - 247)) (by simp only [List.length_drop]; omega)]
          rw [hN] at f
          refine s_move f (g_none rfl) rfl rfl ?_; clear f a; intro a f
          refine s_call f (g_none rfl) rfl Try.func32 rfl rfl (ev1 f rfl) (rnumber_calls (n := refNum b) (hn := (by omega)) (w := _) ) ?_
          rintro _ w23 ⟨p24, c25, rfl, hx26, ho27⟩; refine ⟨_, rfl, ?_⟩; clear f a; intro a f
          replace ho27 := ho27.mono (Nat.le_refl _)
          have hE := hx26; clear hx26
          refine s_assign f (g_none rfl) rfl rfl ?_; clear f a; intro a f
          refine nil_then ?_
          refine wp_seq ?_
          refine reg_seq ?_
          refine s_move f (g_none rfl) rfl rfl ?_; clear f a; intro a f
          refine s_move f (g_none rfl) rfl rfl ?_; clear f a; intro a f
          refine s_call f (g_none rfl) rfl Try.func99 rfl rfl (ev2 f rfl rfl) (starts_calls (p := p) (b := b) (c := c) (q := p24) (h := numBytes (refNum b)) (d := c25) (w := _) (hr0 := (hr0.ext hE)) (hr1 := (ho27.rd))) ?_
          rintro _ w28 ⟨rfl, hx29⟩; refine ⟨_, rfl, ?_⟩; clear f a; intro a f
          replace ho27 := ho27.ext hx29
          replace hE := hE.tr hx29
          clear hx29
          refine s_not f (g_none rfl) rfl rfl ?_; clear f a; intro a f
          rw [← decide_not] at f
          refine nil_then ?_
          by_cases hc30 : ¬ (b.take (numBytes (refNum b)).length = (numBytes (refNum b)))
          · skip
            have hb31 : (decide (¬ (b.take (numBytes (refNum b)).length = (numBytes (refNum b))))) = true := decide_eq_true hc30
            rw [hb31] at f
            have hst := hc30
            refine c_true f rfl ?_
            refine reg_seq ?_
            refine s_assign f (g_none rfl) rfl rfl ?_; clear f a; intro a f
            refine s_assign f (g_none rfl) rfl rfl ?_; clear f a; intro a f
            refine s_assign f (g_none rfl) rfl rfl ?_; clear f a; intro a f
            refine nil_then ?_
            refine wp_ret ?_
            refine then_r ?_
            refine retG (vs := [.int .u64 (0), .int .i64 (0), .int .i64 (12)]) f rfl ⟨rfl, rfl, rfl, trivial⟩ ?_
            have hbad := readNum_ref_no (b := b) (by omega) hst
            exact ⟨congrArg Ending.returned (tup3 (congrArg (Value.int .u64) (by rw [hbad] <;> rfl)) (congrArg (Value.int .i64) (by rw [hbad] <;> rfl)) (congrArg (Value.int .i64) (by rw [hbad] <;> rfl))), hE⟩
          · skip
            have hb32 : (decide (¬ (b.take (numBytes (refNum b)).length = (numBytes (refNum b))))) = false := decide_eq_false hc30
            rw [hb32] at f
            have hst := hc30
            refine c_false f rfl ?_
            refine wp_skip ?_
            refine then_n ?_
            refine reg_seq ?_
            refine s_move f (g_none rfl) rfl rfl ?_; clear f a; intro a f
            refine s_move f (g_none rfl) rfl rfl ?_; clear f a; intro a f
            refine t_len f (g_none rfl) rfl rfl Try.underlying32 rfl ?_; clear f a; intro a f
            refine s_assign f (g_none rfl) rfl rfl ?_; clear f a; intro a f
            refine s_assign f (g_none rfl) rfl rfl ?_; clear f a; intro a f
            refine s_assign f (g_none rfl) rfl rfl ?_; clear f a; intro a f
            refine nil_then ?_
            refine wp_ret ?_
            refine retG (vs := [.int .u64 ((refNum b : Nat) : Int), .int .i64 (((numBytes (refNum b)).length : Nat) : Int), .int .i64 (0)]) f rfl ⟨rfl, rfl, rfl, trivial⟩ ?_
            have hg := readNum_ref_yes (b := b) (Classical.not_not.1 hst)
            exact ⟨congrArg Ending.returned (tup3 (congrArg (Value.int .u64) (by rw [hg])) (congrArg (Value.int .i64) (by rw [hg])) (congrArg (Value.int .i64) (by rw [hg] <;> rfl))), hE⟩
    · skip
      have hb33 : (decide (247 < (((b.getD 0 0).toNat : Nat) : Int))) = false := decide_eq_false hc4
      rw [hb33] at f
      refine c_false f rfl ?_
      refine wp_skip ?_
      refine then_n ?_
      refine reg_seq ?_
      have hN : (b.getD 0 0).toNat = refNum b := by unfold refNum; rw [if_pos (by omega)]
      rw [hN] at f
      refine s_move f (g_none rfl) rfl rfl ?_; clear f a; intro a f
      refine s_call f (g_none rfl) rfl Try.func32 rfl rfl (ev1 f rfl) (rnumber_calls (n := refNum b) (hn := (by omega)) (w := _) ) ?_
      rintro _ w34 ⟨p35, c36, rfl, hx37, ho38⟩; refine ⟨_, rfl, ?_⟩; clear f a; intro a f
      replace ho38 := ho38.mono (Nat.le_refl _)
      have hE := hx37; clear hx37
      refine s_assign f (g_none rfl) rfl rfl ?_; clear f a; intro a f
      refine nil_then ?_
      refine wp_seq ?_
      refine reg_seq ?_
      refine s_move f (g_none rfl) rfl rfl ?_; clear f a; intro a f
      refine s_move f (g_none rfl) rfl rfl ?_; clear f a; intro a f
      refine s_call f (g_none rfl) rfl Try.func99 rfl rfl (ev2 f rfl rfl) (starts_calls (p := p) (b := b) (c := c) (q := p35) (h := numBytes (refNum b)) (d := c36) (w := _) (hr0 := (hr0.ext hE)) (hr1 := (ho38.rd))) ?_
      rintro _ w39 ⟨rfl, hx40⟩; refine ⟨_, rfl, ?_⟩; clear f a; intro a f
      replace ho38 := ho38.ext hx40
      replace hE := hE.tr hx40
      clear hx40
      refine s_not f (g_none rfl) rfl rfl ?_; clear f a; intro a f
      rw [← decide_not] at f
      refine nil_then ?_
      by_cases hc41 : ¬ (b.take (numBytes (refNum b)).length = (numBytes (refNum b)))
      · skip
        have hb42 : (decide (¬ (b.take (numBytes (refNum b)).length = (numBytes (refNum b))))) = true := decide_eq_true hc41
        rw [hb42] at f
        have hst := hc41
        refine c_true f rfl ?_
        refine reg_seq ?_
        refine s_assign f (g_none rfl) rfl rfl ?_; clear f a; intro a f
        refine s_assign f (g_none rfl) rfl rfl ?_; clear f a; intro a f
        refine s_assign f (g_none rfl) rfl rfl ?_; clear f a; intro a f
        refine nil_then ?_
        refine wp_ret ?_
        refine then_r ?_
        refine retG (vs := [.int .u64 (0), .int .i64 (0), .int .i64 (12)]) f rfl ⟨rfl, rfl, rfl, trivial⟩ ?_
        have hbad := readNum_ref_no (b := b) (by omega) hst
        exact ⟨congrArg Ending.returned (tup3 (congrArg (Value.int .u64) (by rw [hbad] <;> rfl)) (congrArg (Value.int .i64) (by rw [hbad] <;> rfl)) (congrArg (Value.int .i64) (by rw [hbad] <;> rfl))), hE⟩
      · skip
        have hb43 : (decide (¬ (b.take (numBytes (refNum b)).length = (numBytes (refNum b))))) = false := decide_eq_false hc41
        rw [hb43] at f
        have hst := hc41
        refine c_false f rfl ?_
        refine wp_skip ?_
        refine then_n ?_
        refine reg_seq ?_
        refine s_move f (g_none rfl) rfl rfl ?_; clear f a; intro a f
        refine s_move f (g_none rfl) rfl rfl ?_; clear f a; intro a f
        refine t_len f (g_none rfl) rfl rfl Try.underlying32 rfl ?_; clear f a; intro a f
        refine s_assign f (g_none rfl) rfl rfl ?_; clear f a; intro a f
        refine s_assign f (g_none rfl) rfl rfl ?_; clear f a; intro a f
        refine s_assign f (g_none rfl) rfl rfl ?_; clear f a; intro a f
        refine nil_then ?_
        refine wp_ret ?_
        refine retG (vs := [.int .u64 ((refNum b : Nat) : Int), .int .i64 (((numBytes (refNum b)).length : Nat) : Int), .int .i64 (0)]) f rfl ⟨rfl, rfl, rfl, trivial⟩ ?_
        have hg := readNum_ref_yes (b := b) (Classical.not_not.1 hst)
        exact ⟨congrArg Ending.returned (tup3 (congrArg (Value.int .u64) (by rw [hg])) (congrArg (Value.int .i64) (by rw [hg])) (congrArg (Value.int .i64) (by rw [hg] <;> rfl))), hE⟩

set_option maxRecDepth 100000 in
theorem signed_calls (m : Int) (h1 : -9223372036854775808 ≤ m) (h2 : m ≤ 9223372036854775807) (w : World)  :
    Calls Try.prog 33 #[.int .i64 m] w (fun e w' => ∃ p : Option Addr, ∃ c : Nat, e = .returned (.slice p (numBytes (zig m)).length c) ∧ Ext w w' ∧ OwL bytesE w' w.heap.size 5 p c (numBytes (zig m))) := by
  refine enter (n := 11) (l := [(0, .int .i64 m)]) Try.func33 rfl rfl rfl rfl ?_; intro a f
  refine reg_seq ?_
  refine s_assign f (g_none rfl) rfl rfl ?_; clear f a; intro a f
  refine nil_then ?_
  refine reg_seq ?_
  refine s_move f (g_none rfl) rfl rfl ?_; clear f a; intro a f
  refine s_conv (r := IntKind.u64.wrap m) f (g_none rfl) rfl Try.underlying2 Try.underlying31 rfl rfl ?_; clear f a; intro a f
  refine s_shl (r := IntKind.u64.wrap ((IntKind.u64.wrap m) * 2 ^ (min (1 : Int).toNat IntKind.u64.bits))) f (g_none rfl) rfl rfl rfl (by decide) rfl ?_; clear f a; intro a f
  refine s_move f (g_none rfl) rfl rfl ?_; clear f a; intro a f
  refine s_shr (r := Int.fdiv m (2 ^ (min (63 : Int).toNat IntKind.i64.bits))) f (g_none rfl) rfl rfl rfl (by decide) rfl ?_; clear f a; intro a f
  refine s_conv (r := IntKind.u64.wrap (Int.fdiv m (2 ^ (min (63 : Int).toNat IntKind.i64.bits)))) f (g_none rfl) rfl Try.underlying2 Try.underlying31 rfl rfl ?_; clear f a; intro a f
  refine s_bits (r := ((zig m : Nat) : Int)) f (g_none rfl) rfl rfl rfl rfl (zig_bits h1 h2) ?_; clear f a; intro a f
  refine s_call f (g_none rfl) rfl Try.func31 rfl rfl (ev1 f rfl) (number_calls (n := zig m) (hn := (zig_lt h1 h2)) (w := _) ) ?_
  rintro _ w1 ⟨p2, c3, rfl, hx4, ho5⟩; refine ⟨_, rfl, ?_⟩; clear f a; intro a f
  replace ho5 := ho5.mono (Nat.le_refl _)
  have hE := hx4; clear hx4
  refine s_assign f (g_none rfl) rfl rfl ?_; clear f a; intro a f
  refine nil_then ?_
  refine wp_ret ?_
  refine retG (vs := [.slice p2 (numBytes (zig m)).length c3]) f rfl ⟨rfl, trivial⟩ ?_
  exact ⟨p2, c3, congrArg Ending.returned (rfl), hE, ho5⟩

set_option maxRecDepth 100000 in
theorem rsigned_calls (m : Int) (h1 : -9223372036854775808 ≤ m) (h2 : m ≤ 9223372036854775807) (w : World)  :
    Calls Try.prog 34 #[.int .i64 m] w (fun e w' => ∃ p : Option Addr, ∃ c : Nat, e = .returned (.slice p (numBytes (zig m)).length c) ∧ Ext w w' ∧ OwL bytesE w' w.heap.size 5 p c (numBytes (zig m))) := by
  refine enter (n := 16) (l := [(0, .int .i64 m)]) Try.func34 rfl rfl rfl rfl ?_; intro a f
  refine reg_seq ?_
  refine s_assign f (g_none rfl) rfl rfl ?_; clear f a; intro a f
  refine nil_then ?_
  refine wp_seq ?_
  refine reg_seq ?_
  refine s_move f (g_none rfl) rfl rfl ?_; clear f a; intro a f
  refine s_bin f (g_none rfl) rfl rfl rfl rfl ?_; clear f a; intro a f
  refine nil_then ?_
  by_cases hc1 : 0 ≤ m
  · skip
    have hb2 : (decide (0 ≤ m)) = true := decide_eq_true hc1
    rw [hb2] at f
    refine c_true f rfl ?_
    refine reg_seq ?_
    refine s_move f (g_none rfl) rfl rfl ?_; clear f a; intro a f
    refine s_conv (r := m) f (g_none rfl) rfl Try.underlying2 Try.underlying31 rfl (wrap_u64 (by omega) rfl) ?_; clear f a; intro a f
    refine s_bin f (g_none rfl) rfl rfl rfl (arith_mul (r := ((zig m : Nat) : Int)) (wrap_u64 (by omega) (by unfold zig; rw [if_pos (by omega)]; omega))) ?_; clear f a; intro a f
    refine s_call f (g_none rfl) rfl Try.func32 rfl rfl (ev1 f rfl) (rnumber_calls (n := zig m) (hn := (zig_lt h1 h2)) (w := _) ) ?_
    rintro _ w3 ⟨p4, c5, rfl, hx6, ho7⟩; refine ⟨_, rfl, ?_⟩; clear f a; intro a f
    replace ho7 := ho7.mono (Nat.le_refl _)
    have hE := hx6; clear hx6
    refine s_assign f (g_none rfl) rfl rfl ?_; clear f a; intro a f
    refine nil_then ?_
    refine wp_ret ?_
    refine then_r ?_
    refine retG (vs := [.slice p4 (numBytes (zig m)).length c5]) f rfl ⟨rfl, trivial⟩ ?_
    exact ⟨p4, c5, congrArg Ending.returned (rfl), hE, ho7⟩
  · skip
    have hb8 : (decide (0 ≤ m)) = false := decide_eq_false hc1
    rw [hb8] at f
    refine c_false f rfl ?_
    refine wp_skip ?_
    refine then_n ?_
    refine reg_seq ?_
    refine s_move f (g_none rfl) rfl rfl ?_; clear f a; intro a f
    refine s_bin f (g_none rfl) rfl rfl rfl (arith_add (r := m + 1) (wrap_i64 (by omega) (by omega))) ?_; clear f a; intro a f
    refine s_neg (r := -(m + 1)) f (g_none rfl) rfl rfl (wrap_i64 (by omega) (by omega)) ?_; clear f a; intro a f
    refine s_conv (r := -(m + 1)) f (g_none rfl) rfl Try.underlying2 Try.underlying31 rfl (wrap_u64 (by omega) rfl) ?_; clear f a; intro a f
    refine s_bin f (g_none rfl) rfl rfl rfl (arith_mul (r := 2 * (-(m + 1))) (wrap_u64 (by omega) (by omega))) ?_; clear f a; intro a f
    refine s_bin f (g_none rfl) rfl rfl rfl (arith_add (r := ((zig m : Nat) : Int)) (wrap_u64 (by omega) (by unfold zig; rw [if_neg (by omega)]; omega))) ?_; clear f a; intro a f
    refine s_call f (g_none rfl) rfl Try.func32 rfl rfl (ev1 f rfl) (rnumber_calls (n := zig m) (hn := (zig_lt h1 h2)) (w := _) ) ?_
    rintro _ w9 ⟨p10, c11, rfl, hx12, ho13⟩; refine ⟨_, rfl, ?_⟩; clear f a; intro a f
    replace ho13 := ho13.mono (Nat.le_refl _)
    have hE := hx12; clear hx12
    refine s_assign f (g_none rfl) rfl rfl ?_; clear f a; intro a f
    refine nil_then ?_
    refine wp_ret ?_
    refine retG (vs := [.slice p10 (numBytes (zig m)).length c11]) f rfl ⟨rfl, trivial⟩ ?_
    exact ⟨p10, c11, congrArg Ending.returned (rfl), hE, ho13⟩

set_option maxRecDepth 100000 in
theorem reads_calls (p : Option Addr) (b : List UInt8) (c : Nat) (w : World) (hr0 : RdL bytesE w p c b) :
    Calls Try.prog 28 #[.slice p b.length c] w (fun e w' => e = .returned (.tuple #[.int .i64 ((readS b).1), .int .i64 (((readS b).2.1 : Nat) : Int), .int .i64 (((readS b).2.2 : Nat) : Int)]) ∧ w = w') := by
  have hrl := readN_lt b
  have hle0 := hr0.le
  refine enter (n := 26) (l := [(0, .slice p b.length c)]) Try.func28 rfl rfl rfl rfl ?_; intro a f
  refine reg_seq ?_
  refine s_assign f (g_none rfl) rfl rfl ?_; clear f a; intro a f
  refine s_assign f (g_none rfl) rfl rfl ?_; clear f a; intro a f
  refine s_assign f (g_none rfl) rfl rfl ?_; clear f a; intro a f
  refine nil_then ?_
  refine reg_seq ?_
  refine s_move f (g_none rfl) rfl rfl ?_; clear f a; intro a f
  refine s_call f (g_none rfl) rfl Try.func26 rfl rfl (ev1 f rfl) (readn_calls (p := p) (b := b) (c := c) (w := _) (hr0 := hr0)) ?_
  rintro _ _ ⟨rfl, rfl⟩; refine ⟨_, rfl, ?_⟩; clear f a; intro a f
  refine s_move f (g_none rfl) rfl rfl ?_; clear f a; intro a f
  refine s_extract (v := .int .u64 (((readN b).1 : Nat) : Int)) f (g_none rfl) rfl rfl rfl ?_; clear f a; intro a f
  refine s_extract (v := .int .i64 (((readN b).2.1 : Nat) : Int)) f (g_none rfl) rfl rfl rfl ?_; clear f a; intro a f
  refine s_extract (v := .int .i64 (((readN b).2.2 : Nat) : Int)) f (g_none rfl) rfl rfl rfl ?_; clear f a; intro a f
  refine s_assign f (g_none rfl) rfl rfl ?_; clear f a; intro a f
  refine s_assign f (g_none rfl) rfl rfl ?_; clear f a; intro a f
  refine s_assign f (g_none rfl) rfl rfl ?_; clear f a; intro a f
  refine nil_then ?_
  refine wp_seq ?_
  refine reg_seq ?_
  refine s_move f (g_none rfl) rfl rfl ?_; clear f a; intro a f
  refine s_bin (v := .bool (decide ((((readN b).2.2 : Nat) : Int) ≠ 0))) f (g_none rfl) rfl rfl rfl arith_neq ?_; clear f a; intro a f
  refine nil_then ?_
  by_cases hc2 : (((readN b).2.2 : Nat) : Int) ≠ 0
  · skip
    have hb3 : (decide ((((readN b).2.2 : Nat) : Int) ≠ 0)) = true := decide_eq_true hc2
    rw [hb3] at f
    refine c_true f rfl ?_
    refine reg_seq ?_
    refine s_move f (g_none rfl) rfl rfl ?_; clear f a; intro a f
    refine s_assign f (g_none rfl) rfl rfl ?_; clear f a; intro a f
    refine s_assign f (g_none rfl) rfl rfl ?_; clear f a; intro a f
    refine s_assign f (g_none rfl) rfl rfl ?_; clear f a; intro a f
    refine nil_then ?_
    refine wp_ret ?_
    refine then_r ?_
    refine retG (vs := [.int .i64 (0), .int .i64 (0), .int .i64 (((readN b).2.2 : Nat) : Int)]) f rfl ⟨rfl, rfl, rfl, trivial⟩ ?_
    have hg := readS_no (b := b) (by omega)
    exact ⟨congrArg Ending.returned (tup3 (congrArg (Value.int .i64) (by rw [hg] <;> rfl)) (congrArg (Value.int .i64) (by rw [hg] <;> rfl)) (congrArg (Value.int .i64) (by rw [hg] <;> rfl))), rfl⟩
  · skip
    have hb4 : (decide ((((readN b).2.2 : Nat) : Int) ≠ 0)) = false := decide_eq_false hc2
    rw [hb4] at f
    refine c_false f rfl ?_
    refine wp_skip ?_
    refine then_n ?_
    refine reg_seq ?_
    refine s_move f (g_none rfl) rfl rfl ?_; clear f a; intro a f
    refine s_shr (r := Int.fdiv (((readN b).1 : Nat) : Int) (2 ^ (min (1 : Int).toNat IntKind.u64.bits))) f (g_none rfl) rfl rfl rfl (by decide) rfl ?_; clear f a; intro a f
    refine s_conv (r := IntKind.i64.wrap (Int.fdiv (((readN b).1 : Nat) : Int) (2 ^ (min (1 : Int).toNat IntKind.u64.bits)))) f (g_none rfl) rfl Try.underlying31 Try.underlying2 rfl rfl ?_; clear f a; intro a f
    refine s_move f (g_none rfl) rfl rfl ?_; clear f a; intro a f
    refine s_bits (r := bitsOf .and .u64 (((readN b).1 : Nat) : Int) 1) f (g_none rfl) rfl rfl rfl rfl rfl ?_; clear f a; intro a f
    refine s_conv (r := IntKind.i64.wrap (bitsOf .and .u64 (((readN b).1 : Nat) : Int) 1)) f (g_none rfl) rfl Try.underlying31 Try.underlying2 rfl rfl ?_; clear f a; intro a f
    refine s_neg (r := IntKind.i64.wrap (0 - (IntKind.i64.wrap (bitsOf .and .u64 (((readN b).1 : Nat) : Int) 1)))) f (g_none rfl) rfl rfl rfl ?_; clear f a; intro a f
    refine s_bits (r := unzig (readN b).1) f (g_none rfl) rfl rfl rfl rfl (unzig_bits hrl.1) ?_; clear f a; intro a f
    refine s_move f (g_none rfl) rfl rfl ?_; clear f a; intro a f
    refine s_assign f (g_none rfl) rfl rfl ?_; clear f a; intro a f
    refine s_assign f (g_none rfl) rfl rfl ?_; clear f a; intro a f
    refine s_assign f (g_none rfl) rfl rfl ?_; clear f a; intro a f
    refine nil_then ?_
    refine wp_ret ?_
    refine retG (vs := [.int .i64 (unzig (readN b).1), .int .i64 (((readN b).2.1 : Nat) : Int), .int .i64 (0)]) f rfl ⟨rfl, rfl, rfl, trivial⟩ ?_
    have hg := readS_ok (b := b) (by omega)
    exact ⟨congrArg Ending.returned (tup3 (congrArg (Value.int .i64) (by rw [hg] <;> rfl)) (congrArg (Value.int .i64) (by rw [hg] <;> rfl)) (congrArg (Value.int .i64) (by rw [hg] <;> rfl))), rfl⟩

set_option maxRecDepth 100000 in
theorem rreads_calls (p : Option Addr) (b : List UInt8) (c : Nat) (w : World) (hr0 : RdL bytesE w p c b) :
    Calls Try.prog 29 #[.slice p b.length c] w (fun e w' => e = .returned (.tuple #[.int .i64 ((readS b).1), .int .i64 (((readS b).2.1 : Nat) : Int), .int .i64 (((readS b).2.2 : Nat) : Int)]) ∧ Ext w w') := by
  have hrl := readN_lt b
  have hle0 := hr0.le
  refine enter (n := 30) (l := [(0, .slice p b.length c)]) Try.func29 rfl rfl rfl rfl ?_; intro a f
  refine reg_seq ?_
  refine s_assign f (g_none rfl) rfl rfl ?_; clear f a; intro a f
  refine s_assign f (g_none rfl) rfl rfl ?_; clear f a; intro a f
  refine s_assign f (g_none rfl) rfl rfl ?_; clear f a; intro a f
  refine nil_then ?_
  refine reg_seq ?_
  refine s_move f (g_none rfl) rfl rfl ?_; clear f a; intro a f
  refine s_call f (g_none rfl) rfl Try.func27 rfl rfl (ev1 f rfl) (rreadn_calls (p := p) (b := b) (c := c) (w := _) (hr0 := hr0)) ?_
  rintro _ w1 ⟨rfl, hx2⟩; refine ⟨_, rfl, ?_⟩; clear f a; intro a f
  have hE := hx2; clear hx2
  refine s_move f (g_none rfl) rfl rfl ?_; clear f a; intro a f
  refine s_extract (v := .int .u64 (((readN b).1 : Nat) : Int)) f (g_none rfl) rfl rfl rfl ?_; clear f a; intro a f
  refine s_extract (v := .int .i64 (((readN b).2.1 : Nat) : Int)) f (g_none rfl) rfl rfl rfl ?_; clear f a; intro a f
  refine s_extract (v := .int .i64 (((readN b).2.2 : Nat) : Int)) f (g_none rfl) rfl rfl rfl ?_; clear f a; intro a f
  refine s_assign f (g_none rfl) rfl rfl ?_; clear f a; intro a f
  refine s_assign f (g_none rfl) rfl rfl ?_; clear f a; intro a f
  refine s_assign f (g_none rfl) rfl rfl ?_; clear f a; intro a f
  refine nil_then ?_
  refine wp_seq ?_
  refine reg_seq ?_
  refine s_move f (g_none rfl) rfl rfl ?_; clear f a; intro a f
  refine s_bin (v := .bool (decide ((((readN b).2.2 : Nat) : Int) ≠ 0))) f (g_none rfl) rfl rfl rfl arith_neq ?_; clear f a; intro a f
  refine nil_then ?_
  by_cases hc3 : (((readN b).2.2 : Nat) : Int) ≠ 0
  · skip
    have hb4 : (decide ((((readN b).2.2 : Nat) : Int) ≠ 0)) = true := decide_eq_true hc3
    rw [hb4] at f
    refine c_true f rfl ?_
    refine reg_seq ?_
    refine s_move f (g_none rfl) rfl rfl ?_; clear f a; intro a f
    refine s_assign f (g_none rfl) rfl rfl ?_; clear f a; intro a f
    refine s_assign f (g_none rfl) rfl rfl ?_; clear f a; intro a f
    refine s_assign f (g_none rfl) rfl rfl ?_; clear f a; intro a f
    refine nil_then ?_
    refine wp_ret ?_
    refine then_r ?_
    refine retG (vs := [.int .i64 (0), .int .i64 (0), .int .i64 (((readN b).2.2 : Nat) : Int)]) f rfl ⟨rfl, rfl, rfl, trivial⟩ ?_
    have hg := readS_no (b := b) (by omega)
    exact ⟨congrArg Ending.returned (tup3 (congrArg (Value.int .i64) (by rw [hg] <;> rfl)) (congrArg (Value.int .i64) (by rw [hg] <;> rfl)) (congrArg (Value.int .i64) (by rw [hg] <;> rfl))), hE⟩
  · skip
    have hb5 : (decide ((((readN b).2.2 : Nat) : Int) ≠ 0)) = false := decide_eq_false hc3
    rw [hb5] at f
    refine c_false f rfl ?_
    refine wp_skip ?_
    refine then_n ?_
    refine wp_seq ?_
    refine reg_seq ?_
    refine s_move f (g_none rfl) rfl rfl ?_; clear f a; intro a f
    refine s_rem (r := ((((readN b).1) % 2 : Nat) : Int)) f (g_none rfl) rfl rfl rfl (by omega) (rem_nat _ _) ?_; clear f a; intro a f
    refine s_bin (v := .bool (decide (((((readN b).1) % 2 : Nat) : Int) = 0))) f (g_none rfl) rfl rfl rfl arith_eql ?_; clear f a; intro a f
    refine nil_then ?_
    by_cases hc6 : ((((readN b).1) % 2 : Nat) : Int) = 0
    · skip
      have hb7 : (decide (((((readN b).1) % 2 : Nat) : Int) = 0)) = true := decide_eq_true hc6
      rw [hb7] at f
      refine c_true f rfl ?_
      refine reg_seq ?_
      refine s_move f (g_none rfl) rfl rfl ?_; clear f a; intro a f
      refine s_quo (r := ((((readN b).1) / 2 : Nat) : Int)) f (g_none rfl) rfl rfl rfl (by omega) (quo_u64 (x := (readN b).1) (y := 2) (by omega) (by omega)) ?_; clear f a; intro a f
      refine s_conv (r := ((((readN b).1) / 2 : Nat) : Int)) f (g_none rfl) rfl Try.underlying31 Try.underlying2 rfl (nat_i64 (((readN b).1) / 2) (by omega)) ?_; clear f a; intro a f
      refine s_move f (g_none rfl) rfl rfl ?_; clear f a; intro a f
      refine s_assign f (g_none rfl) rfl rfl ?_; clear f a; intro a f
      refine s_assign f (g_none rfl) rfl rfl ?_; clear f a; intro a f
      refine s_assign f (g_none rfl) rfl rfl ?_; clear f a; intro a f
      refine nil_then ?_
      refine wp_ret ?_
      refine then_r ?_
      refine retG (vs := [.int .i64 ((((readN b).1) / 2 : Nat) : Int), .int .i64 (((readN b).2.1 : Nat) : Int), .int .i64 (0)]) f rfl ⟨rfl, rfl, rfl, trivial⟩ ?_
      have hg := readS_ok (b := b) (by omega)
      exact ⟨congrArg Ending.returned (tup3 (congrArg (Value.int .i64) (by rw [hg]; show _ = unzig _; unfold unzig; rw [if_pos (by omega)])) (congrArg (Value.int .i64) (by rw [hg] <;> rfl)) (congrArg (Value.int .i64) (by rw [hg] <;> rfl))), hE⟩
    · skip
      have hb8 : (decide (((((readN b).1) % 2 : Nat) : Int) = 0)) = false := decide_eq_false hc6
      rw [hb8] at f
      refine c_false f rfl ?_
      refine wp_skip ?_
      refine then_n ?_
      refine reg_seq ?_
      refine s_move f (g_none rfl) rfl rfl ?_; clear f a; intro a f
      refine s_quo (r := ((((readN b).1) / 2 : Nat) : Int)) f (g_none rfl) rfl rfl rfl (by omega) (quo_u64 (x := (readN b).1) (y := 2) (by omega) (by omega)) ?_; clear f a; intro a f
      refine s_conv (r := ((((readN b).1) / 2 : Nat) : Int)) f (g_none rfl) rfl Try.underlying31 Try.underlying2 rfl (nat_i64 (((readN b).1) / 2) (by omega)) ?_; clear f a; intro a f
      refine s_neg (r := -((((readN b).1) / 2 : Nat) : Int)) f (g_none rfl) rfl rfl (wrap_i64 (by omega) (by omega)) ?_; clear f a; intro a f
      refine s_bin f (g_none rfl) rfl rfl rfl (arith_sub (r := (-((((readN b).1) / 2 : Nat) : Int)) - 1) (wrap_i64 (by omega) (by omega))) ?_; clear f a; intro a f
      refine s_move f (g_none rfl) rfl rfl ?_; clear f a; intro a f
      refine s_assign f (g_none rfl) rfl rfl ?_; clear f a; intro a f
      refine s_assign f (g_none rfl) rfl rfl ?_; clear f a; intro a f
      refine s_assign f (g_none rfl) rfl rfl ?_; clear f a; intro a f
      refine nil_then ?_
      refine wp_ret ?_
      refine retG (vs := [.int .i64 ((-((((readN b).1) / 2 : Nat) : Int)) - 1), .int .i64 (((readN b).2.1 : Nat) : Int), .int .i64 (0)]) f rfl ⟨rfl, rfl, rfl, trivial⟩ ?_
      have hg := readS_ok (b := b) (by omega)
      exact ⟨congrArg Ending.returned (tup3 (congrArg (Value.int .i64) (by rw [hg]; show _ = unzig _; unfold unzig; rw [if_neg (by omega)])) (congrArg (Value.int .i64) (by rw [hg] <;> rfl)) (congrArg (Value.int .i64) (by rw [hg] <;> rfl))), hE⟩

set_option maxRecDepth 100000 in
theorem wireNumbers_calls (n : Nat) (hn : n < 18446744073709551616) (m : Int) (h1 : -9223372036854775808 ≤ m) (h2 : m ≤ 9223372036854775807) (p : Option Addr) (b : List UInt8) (c : Nat) (w : World) (hr2 : RdL bytesE w p c b) :
    Calls Try.prog 4 #[.int .u64 ((n : Nat) : Int), .int .i64 m, .slice p b.length c] w (fun e w' => e = .returned (.bool true) ∧ Ext w w') := by
  have hle2 := hr2.le
  refine enter (n := 88) (l := [(0, .int .u64 ((n : Nat) : Int)), (1, .int .i64 m), (2, .slice p b.length c)]) Try.func4 rfl rfl rfl rfl ?_; intro a f
  refine reg_seq ?_
  refine s_assign f (g_none rfl) rfl rfl ?_; clear f a; intro a f
  refine nil_then ?_
  refine wp_seq ?_
  refine reg_seq ?_
  refine s_move f (g_none rfl) rfl rfl ?_; clear f a; intro a f
  refine t_len f (g_none rfl) rfl rfl Try.underlying32 rfl ?_; clear f a; intro a f
  refine s_bin f (g_none rfl) rfl rfl rfl rfl ?_; clear f a; intro a f
  refine nil_then ?_
  by_cases hc1 : 2000 < ((b.length : Nat) : Int)
  · skip
    have hb2 : (decide (2000 < ((b.length : Nat) : Int))) = true := decide_eq_true hc1
    rw [hb2] at f
    refine c_true f rfl ?_
    refine reg_seq ?_
    refine s_assign f (g_none rfl) rfl rfl ?_; clear f a; intro a f
    refine nil_then ?_
    refine wp_ret ?_
    refine then_r ?_
    refine retG (vs := [.bool true]) f rfl ⟨rfl, trivial⟩ ?_
    exact ⟨congrArg Ending.returned (rfl), Ext.rfl'⟩
  · skip
    have hb3 : (decide (2000 < ((b.length : Nat) : Int))) = false := decide_eq_false hc1
    rw [hb3] at f
    refine c_false f rfl ?_
    refine wp_skip ?_
    refine then_n ?_
    refine reg_seq ?_
    refine s_move f (g_none rfl) rfl rfl ?_; clear f a; intro a f
    refine s_call f (g_none rfl) rfl Try.func26 rfl rfl (ev1 f rfl) (readn_calls (p := p) (b := b) (c := c) (w := _) (hr0 := hr2)) ?_
    rintro _ _ ⟨rfl, rfl⟩; refine ⟨_, rfl, ?_⟩; clear f a; intro a f
    refine s_move f (g_none rfl) rfl rfl ?_; clear f a; intro a f
    refine s_extract (v := .int .u64 (((readN b).1 : Nat) : Int)) f (g_none rfl) rfl rfl rfl ?_; clear f a; intro a f
    refine s_extract (v := .int .i64 (((readN b).2.1 : Nat) : Int)) f (g_none rfl) rfl rfl rfl ?_; clear f a; intro a f
    refine s_extract (v := .int .i64 (((readN b).2.2 : Nat) : Int)) f (g_none rfl) rfl rfl rfl ?_; clear f a; intro a f
    refine s_assign f (g_none rfl) rfl rfl ?_; clear f a; intro a f
    refine s_assign f (g_none rfl) rfl rfl ?_; clear f a; intro a f
    refine s_assign f (g_none rfl) rfl rfl ?_; clear f a; intro a f
    refine nil_then ?_
    refine reg_seq ?_
    refine s_move f (g_none rfl) rfl rfl ?_; clear f a; intro a f
    refine s_call f (g_none rfl) rfl Try.func27 rfl rfl (ev1 f rfl) (rreadn_calls (p := p) (b := b) (c := c) (w := _) (hr0 := hr2)) ?_
    rintro _ w5 ⟨rfl, hx6⟩; refine ⟨_, rfl, ?_⟩; clear f a; intro a f
    have hE := hx6; clear hx6
    refine s_move f (g_none rfl) rfl rfl ?_; clear f a; intro a f
    refine s_extract (v := .int .u64 (((readN b).1 : Nat) : Int)) f (g_none rfl) rfl rfl rfl ?_; clear f a; intro a f
    refine s_extract (v := .int .i64 (((readN b).2.1 : Nat) : Int)) f (g_none rfl) rfl rfl rfl ?_; clear f a; intro a f
    refine s_extract (v := .int .i64 (((readN b).2.2 : Nat) : Int)) f (g_none rfl) rfl rfl rfl ?_; clear f a; intro a f
    refine s_assign f (g_none rfl) rfl rfl ?_; clear f a; intro a f
    refine s_assign f (g_none rfl) rfl rfl ?_; clear f a; intro a f
    refine s_assign f (g_none rfl) rfl rfl ?_; clear f a; intro a f
    refine nil_then ?_
    refine reg_seq ?_
    refine s_move f (g_none rfl) rfl rfl ?_; clear f a; intro a f
    refine s_call f (g_none rfl) rfl Try.func28 rfl rfl (ev1 f rfl) (reads_calls (p := p) (b := b) (c := c) (w := _) (hr0 := (hr2.ext hE))) ?_
    rintro _ _ ⟨rfl, rfl⟩; refine ⟨_, rfl, ?_⟩; clear f a; intro a f
    refine s_move f (g_none rfl) rfl rfl ?_; clear f a; intro a f
    refine s_extract (v := .int .i64 ((readS b).1)) f (g_none rfl) rfl rfl rfl ?_; clear f a; intro a f
    refine s_extract (v := .int .i64 (((readS b).2.1 : Nat) : Int)) f (g_none rfl) rfl rfl rfl ?_; clear f a; intro a f
    refine s_extract (v := .int .i64 (((readS b).2.2 : Nat) : Int)) f (g_none rfl) rfl rfl rfl ?_; clear f a; intro a f
    refine s_assign f (g_none rfl) rfl rfl ?_; clear f a; intro a f
    refine s_assign f (g_none rfl) rfl rfl ?_; clear f a; intro a f
    refine s_assign f (g_none rfl) rfl rfl ?_; clear f a; intro a f
    refine nil_then ?_
    refine reg_seq ?_
    refine s_move f (g_none rfl) rfl rfl ?_; clear f a; intro a f
    refine s_call f (g_none rfl) rfl Try.func29 rfl rfl (ev1 f rfl) (rreads_calls (p := p) (b := b) (c := c) (w := _) (hr0 := (hr2.ext hE))) ?_
    rintro _ w8 ⟨rfl, hx9⟩; refine ⟨_, rfl, ?_⟩; clear f a; intro a f
    replace hE := hE.tr hx9
    clear hx9
    refine s_move f (g_none rfl) rfl rfl ?_; clear f a; intro a f
    refine s_extract (v := .int .i64 ((readS b).1)) f (g_none rfl) rfl rfl rfl ?_; clear f a; intro a f
    refine s_extract (v := .int .i64 (((readS b).2.1 : Nat) : Int)) f (g_none rfl) rfl rfl rfl ?_; clear f a; intro a f
    refine s_extract (v := .int .i64 (((readS b).2.2 : Nat) : Int)) f (g_none rfl) rfl rfl rfl ?_; clear f a; intro a f
    refine s_assign f (g_none rfl) rfl rfl ?_; clear f a; intro a f
    refine s_assign f (g_none rfl) rfl rfl ?_; clear f a; intro a f
    refine s_assign f (g_none rfl) rfl rfl ?_; clear f a; intro a f
    refine nil_then ?_
    refine reg_seq ?_
    refine s_move f (g_none rfl) rfl rfl ?_; clear f a; intro a f
    refine s_call f (g_none rfl) rfl Try.func31 rfl rfl (ev1 f rfl) (number_calls (n := n) (hn := (by omega)) (w := _) ) ?_
    rintro _ w10 ⟨p11, c12, rfl, hx13, ho14⟩; refine ⟨_, rfl, ?_⟩; clear f a; intro a f
    replace ho14 := ho14.mono (hE.size)
    replace hE := hE.tr hx13
    clear hx13
    refine s_move f (g_none rfl) rfl rfl ?_; clear f a; intro a f
    refine s_call f (g_none rfl) rfl Try.func32 rfl rfl (ev1 f rfl) (rnumber_calls (n := n) (hn := (by omega)) (w := _) ) ?_
    rintro _ w15 ⟨p16, c17, rfl, hx18, ho19⟩; refine ⟨_, rfl, ?_⟩; clear f a; intro a f
    have hs20 : ∀ b, sblk p16 = some b → sblk p11 ≠ some b := fun b e1 e2 => by have h1 := (ho19.lt e1).1; have h2 := (ho14.lt e2).2; omega
    replace ho19 := ho19.mono (hE.size)
    replace ho14 := ho14.ext hx18
    replace hE := hE.tr hx18
    clear hx18
    refine s_call f (g_none rfl) rfl Try.func30 rfl rfl (ev2 f rfl rfl) (same_calls (p := p11) (x := numBytes n) (c := c12) (q := p16) (y := numBytes n) (d := c17) (w := _) (hr0 := (ho14.rd)) (hr1 := (ho19.rd))) ?_
    rintro _ w21 ⟨rfl, hx22⟩; refine ⟨_, rfl, ?_⟩; clear f a; intro a f
    replace ho14 := ho14.ext hx22
    replace ho19 := ho19.ext hx22
    replace hE := hE.tr hx22
    clear hx22
    refine s_move f (g_none rfl) rfl rfl ?_; clear f a; intro a f
    have hb23 : (decide ((numBytes n) = (numBytes n))) = true := decide_eq_true (by rfl)
    rw [hb23] at f
    refine s_move f (g_yes f rfl rfl rfl) rfl rfl ?_; clear f a; intro a f
    refine s_call f (g_yes f rfl rfl rfl) rfl Try.func33 rfl rfl (ev1 f rfl) (signed_calls (m := m) (h1 := (by omega)) (h2 := (by omega)) (w := _) ) ?_
    rintro _ w24 ⟨p25, c26, rfl, hx27, ho28⟩; refine ⟨_, rfl, ?_⟩; clear f a; intro a f
    have hs29 : ∀ b, sblk p25 = some b → sblk p11 ≠ some b := fun b e1 e2 => by have h1 := (ho28.lt e1).1; have h2 := (ho14.lt e2).2; omega
    have hs30 : ∀ b, sblk p25 = some b → sblk p16 ≠ some b := fun b e1 e2 => by have h1 := (ho28.lt e1).1; have h2 := (ho19.lt e2).2; omega
    replace ho28 := ho28.mono (hE.size)
    replace ho14 := ho14.ext hx27
    replace ho19 := ho19.ext hx27
    replace hE := hE.tr hx27
    clear hx27
    refine s_move f (g_yes f rfl rfl rfl) rfl rfl ?_; clear f a; intro a f
    refine s_call f (g_yes f rfl rfl rfl) rfl Try.func34 rfl rfl (ev1 f rfl) (rsigned_calls (m := m) (h1 := (by omega)) (h2 := (by omega)) (w := _) ) ?_
    rintro _ w31 ⟨p32, c33, rfl, hx34, ho35⟩; refine ⟨_, rfl, ?_⟩; clear f a; intro a f
    have hs36 : ∀ b, sblk p32 = some b → sblk p11 ≠ some b := fun b e1 e2 => by have h1 := (ho35.lt e1).1; have h2 := (ho14.lt e2).2; omega
    have hs37 : ∀ b, sblk p32 = some b → sblk p16 ≠ some b := fun b e1 e2 => by have h1 := (ho35.lt e1).1; have h2 := (ho19.lt e2).2; omega
    have hs38 : ∀ b, sblk p32 = some b → sblk p25 ≠ some b := fun b e1 e2 => by have h1 := (ho35.lt e1).1; have h2 := (ho28.lt e2).2; omega
    replace ho35 := ho35.mono (hE.size)
    replace ho14 := ho14.ext hx34
    replace ho19 := ho19.ext hx34
    replace ho28 := ho28.ext hx34
    replace hE := hE.tr hx34
    clear hx34
    refine s_call f (g_yes f rfl rfl rfl) rfl Try.func30 rfl rfl (ev2 f rfl rfl) (same_calls (p := p25) (x := numBytes (zig m)) (c := c26) (q := p32) (y := numBytes (zig m)) (d := c33) (w := _) (hr0 := (ho28.rd)) (hr1 := (ho35.rd))) ?_
    rintro _ w39 ⟨rfl, hx40⟩; refine ⟨_, rfl, ?_⟩; clear f a; intro a f
    replace ho14 := ho14.ext hx40
    replace ho19 := ho19.ext hx40
    replace ho28 := ho28.ext hx40
    replace ho35 := ho35.ext hx40
    replace hE := hE.tr hx40
    clear hx40
    refine s_pick (r := .bool (decide ((numBytes (zig m)) = (numBytes (zig m))))) f (g_none rfl) rfl rfl rfl rfl rfl ?_; clear f a; intro a f
    refine s_move f (g_none rfl) rfl rfl ?_; clear f a; intro a f
    have hb41 : (decide ((numBytes (zig m)) = (numBytes (zig m)))) = true := decide_eq_true (by rfl)
    rw [hb41] at f
    refine s_move f (g_yes f rfl rfl rfl) rfl rfl ?_; clear f a; intro a f
    refine s_move f (g_yes f rfl rfl rfl) rfl rfl ?_; clear f a; intro a f
    refine s_bin (v := .bool (decide ((((readN b).1 : Nat) : Int) = (((readN b).1 : Nat) : Int)))) f (g_yes f rfl rfl rfl) rfl rfl rfl arith_eql ?_; clear f a; intro a f
    refine s_pick (r := .bool (decide ((((readN b).1 : Nat) : Int) = (((readN b).1 : Nat) : Int)))) f (g_none rfl) rfl rfl rfl rfl rfl ?_; clear f a; intro a f
    refine s_move f (g_none rfl) rfl rfl ?_; clear f a; intro a f
    have hb42 : (decide ((((readN b).1 : Nat) : Int) = (((readN b).1 : Nat) : Int))) = true := decide_eq_true (by rfl)
    rw [hb42] at f
    refine s_move f (g_yes f rfl rfl rfl) rfl rfl ?_; clear f a; intro a f
    refine s_move f (g_yes f rfl rfl rfl) rfl rfl ?_; clear f a; intro a f
    refine s_bin (v := .bool (decide ((((readN b).2.1 : Nat) : Int) = (((readN b).2.1 : Nat) : Int)))) f (g_yes f rfl rfl rfl) rfl rfl rfl arith_eql ?_; clear f a; intro a f
    refine s_pick (r := .bool (decide ((((readN b).2.1 : Nat) : Int) = (((readN b).2.1 : Nat) : Int)))) f (g_none rfl) rfl rfl rfl rfl rfl ?_; clear f a; intro a f
    refine s_move f (g_none rfl) rfl rfl ?_; clear f a; intro a f
    have hb43 : (decide ((((readN b).2.1 : Nat) : Int) = (((readN b).2.1 : Nat) : Int))) = true := decide_eq_true (by rfl)
    rw [hb43] at f
    refine s_move f (g_yes f rfl rfl rfl) rfl rfl ?_; clear f a; intro a f
    refine s_move f (g_yes f rfl rfl rfl) rfl rfl ?_; clear f a; intro a f
    refine s_bin (v := .bool (decide ((((readN b).2.2 : Nat) : Int) = (((readN b).2.2 : Nat) : Int)))) f (g_yes f rfl rfl rfl) rfl rfl rfl arith_eql ?_; clear f a; intro a f
    refine s_pick (r := .bool (decide ((((readN b).2.2 : Nat) : Int) = (((readN b).2.2 : Nat) : Int)))) f (g_none rfl) rfl rfl rfl rfl rfl ?_; clear f a; intro a f
    refine s_move f (g_none rfl) rfl rfl ?_; clear f a; intro a f
    have hb44 : (decide ((((readN b).2.2 : Nat) : Int) = (((readN b).2.2 : Nat) : Int))) = true := decide_eq_true (by rfl)
    rw [hb44] at f
    refine s_move f (g_yes f rfl rfl rfl) rfl rfl ?_; clear f a; intro a f
    refine s_move f (g_yes f rfl rfl rfl) rfl rfl ?_; clear f a; intro a f
    refine s_bin (v := .bool (decide ((readS b).1 = (readS b).1))) f (g_yes f rfl rfl rfl) rfl rfl rfl arith_eql ?_; clear f a; intro a f
    refine s_pick (r := .bool (decide ((readS b).1 = (readS b).1))) f (g_none rfl) rfl rfl rfl rfl rfl ?_; clear f a; intro a f
    refine s_move f (g_none rfl) rfl rfl ?_; clear f a; intro a f
    have hb45 : (decide ((readS b).1 = (readS b).1)) = true := decide_eq_true (by rfl)
    rw [hb45] at f
    refine s_move f (g_yes f rfl rfl rfl) rfl rfl ?_; clear f a; intro a f
    refine s_move f (g_yes f rfl rfl rfl) rfl rfl ?_; clear f a; intro a f
    refine s_bin (v := .bool (decide ((((readS b).2.1 : Nat) : Int) = (((readS b).2.1 : Nat) : Int)))) f (g_yes f rfl rfl rfl) rfl rfl rfl arith_eql ?_; clear f a; intro a f
    refine s_pick (r := .bool (decide ((((readS b).2.1 : Nat) : Int) = (((readS b).2.1 : Nat) : Int)))) f (g_none rfl) rfl rfl rfl rfl rfl ?_; clear f a; intro a f
    refine s_move f (g_none rfl) rfl rfl ?_; clear f a; intro a f
    have hb46 : (decide ((((readS b).2.1 : Nat) : Int) = (((readS b).2.1 : Nat) : Int))) = true := decide_eq_true (by rfl)
    rw [hb46] at f
    refine s_move f (g_yes f rfl rfl rfl) rfl rfl ?_; clear f a; intro a f
    refine s_move f (g_yes f rfl rfl rfl) rfl rfl ?_; clear f a; intro a f
    refine s_bin (v := .bool (decide ((((readS b).2.2 : Nat) : Int) = (((readS b).2.2 : Nat) : Int)))) f (g_yes f rfl rfl rfl) rfl rfl rfl arith_eql ?_; clear f a; intro a f
    refine s_pick (r := .bool (decide ((((readS b).2.2 : Nat) : Int) = (((readS b).2.2 : Nat) : Int)))) f (g_none rfl) rfl rfl rfl rfl rfl ?_; clear f a; intro a f
    refine s_assign f (g_none rfl) rfl rfl ?_; clear f a; intro a f
    refine nil_then ?_
    refine wp_ret ?_
    refine retG (vs := [.bool (decide ((((readS b).2.2 : Nat) : Int) = (((readS b).2.2 : Nat) : Int)))]) f rfl ⟨rfl, trivial⟩ ?_
    exact ⟨congrArg Ending.returned ((congrArg Value.bool (decide_eq_true rfl))), hE⟩

end Go.Proofs.Ytklfgpdfongaeaa
