/- Walks. -/
import Derived.Test.YtklfgpdfongaeaaW3
import Derived.Test.YtklfgpdfongaeaaW5
import Derived.Test.YtklfgpdfongaeaaLibJ
namespace Go.Proofs.Ytklfgpdfongaeaa
open Go Go.RowKit
set_option linter.unusedSimpArgs false
set_option linter.unusedVariables false

set_option maxRecDepth 100000 in
theorem rcmp_calls (x : ID32) (y : ID32) (w : World)  :
    Calls Try.prog 116 #[.agg ((idsE.of x).toArray), .agg ((idsE.of y).toArray)] w (fun e w' => e = .returned (.int .i64 (Lib.compareBytes x.bytes y.bytes)) ∧ Ext w w') := by
  have hx := x.len
  have hy := y.len
  refine enter (n := 24) (l := [(0, .agg ((idsE.of x).toArray)), (1, .agg ((idsE.of y).toArray))]) Try.func116 rfl rfl rfl rfl ?_; intro a f
  refine reg_seq ?_
  refine s_box f (g_none rfl) rfl rfl ?_; clear f a; intro a w5 b1 f hx3 hb2 hl4
  change Bx w5 b1 (idsE.of x).toArray 102 at hb2
  have hlo6 : w.heap.size ≤ b1 := hl4
  clear hl4
  have hE := hx3; clear hx3
  refine s_box f (g_none rfl) rfl rfl ?_; clear f a; intro a w11 b7 f hx9 hb8 hl10
  change Bx w11 b7 (idsE.of y).toArray 102 at hb8
  have hlo12 : w.heap.size ≤ b7 := Nat.le_trans hE.size hl10
  have hs13 : b7 ≠ b1 := fun e => by have h2 := hb2.lt; omega
  clear hl10
  replace hb2 := hb2.ext hx9
  replace hE := hE.tr hx9
  clear hx9
  refine s_assign f (g_none rfl) rfl rfl ?_; clear f a; intro a f
  refine nil_then ?_
  refine wp_seq ?_
  refine reg_seq ?_
  refine s_assign f (g_none rfl) rfl rfl ?_; clear f a; intro a f
  refine nil_then ?_
  refine wp_block ?_
  refine loop_ghost (α := Nat) (fun gg a wr => let i := gg; Frm 24 [(0, .agg ((idsE.of x).toArray)), (1, .agg ((idsE.of y).toArray)), (2, .pointer (some ⟨b1, 0, none⟩)), (3, .pointer (some ⟨b7, 0, none⟩)), (5, .int .i64 ((i : Nat) : Int))] a ∧ Ext w wr ∧ Bx wr b1 ((idsE.of x).toArray) 102 ∧ Bx wr b7 ((idsE.of y).toArray) 102 ∧ i ≤ 32 ∧ Lib.compareBytes x.bytes y.bytes = Lib.compareBytes (x.bytes.drop i) (y.bytes.drop i)) (fun gg => let i := gg; 32 - i) (0) ?_ ?_
  · skip
    exact ⟨(Frm.pick f (Frm.pick f (Frm.pick f (Frm.pick f (Frm.pick f f.nil rfl) rfl) rfl) rfl) rfl), hE, hb2, hb8, (by omega), rfl⟩
  · skip
    clear f a
    clear hb2
    clear hb8
    clear hE
    rintro i a wr ⟨f, hE, hb2, hb8, hi, hxy⟩
    refine wp_seq ?_
    refine reg_seq ?_
    refine s_move f (g_none rfl) rfl rfl ?_; clear f a; intro a f
    refine s_bin f (g_none rfl) rfl rfl rfl rfl ?_; clear f a; intro a f
    refine nil_then ?_
    by_cases hc15 : ((i : Nat) : Int) < 32
    · skip
      have hb16 : (decide (((i : Nat) : Int) < 32)) = true := decide_eq_true hc15
      rw [hb16] at f
      refine c_true f rfl ?_
      refine wp_skip ?_
      refine then_n ?_
      refine wp_seq ?_
      refine wp_block ?_
      refine wp_seq ?_
      refine quiet_seq (w := wr) mixed (by kernel_rfl) ?_
      refine q_move f (g_none rfl) rfl rfl ?_; clear f a; intro a f
      refine q_indexAddrA (j := i) (q := i) f (g_none rfl) rfl Try.underlying102 ti5 rfl rfl rfl (by omega) (by omega) ?_; clear f a; intro a f
      refine q_load (v := .int .u8 (((x.bytes.getD i 0).toNat : Nat) : Int)) f (g_none rfl) rfl sc5 rfl (hb2.cell' (idcellD _ _ (by omega))) ?_; clear f a; intro a f
      refine q_move f (g_none rfl) rfl rfl ?_; clear f a; intro a f
      refine q_indexAddrA (j := i) (q := i) f (g_none rfl) rfl Try.underlying102 ti5 rfl rfl rfl (by omega) (by omega) ?_; clear f a; intro a f
      refine q_load (v := .int .u8 (((y.bytes.getD i 0).toNat : Nat) : Int)) f (g_none rfl) rfl sc5 rfl (hb8.cell' (idcellD _ _ (by omega))) ?_; clear f a; intro a f
      refine q_bin f (g_none rfl) rfl rfl rfl rfl ?_; clear f a; intro a f
      refine quiet_nil ?_; intro w18 hx17
      replace hb2 := hb2.ext hx17
      replace hb8 := hb8.ext hx17
      replace hE := hE.tr hx17
      clear hx17
      by_cases hc19 : (((x.bytes.getD i 0).toNat : Nat) : Int) < (((y.bytes.getD i 0).toNat : Nat) : Int)
      · skip
        have hb20 : (decide ((((x.bytes.getD i 0).toNat : Nat) : Int) < (((y.bytes.getD i 0).toNat : Nat) : Int))) = true := decide_eq_true hc19
        rw [hb20] at f
        have hlt := hc19
        refine c_true f rfl ?_
        refine reg_seq ?_
        refine s_assign f (g_none rfl) rfl rfl ?_; clear f a; intro a f
        refine nil_then ?_
        refine wp_ret ?_
        refine then_r ?_
        refine blk_r ?_
        refine then_r ?_
        refine then_r ?_
        refine blk_r ?_
        refine then_r ?_
        refine retG (vs := [.int .i64 (-1)]) f rfl ⟨rfl, trivial⟩ ?_
        exact ⟨congrArg Ending.returned ((congrArg (Value.int .i64) ((by rw [hxy]; exact (cmp_less (by omega) (by omega) (by omega)).symm)))), hE⟩
      · skip
        have hb21 : (decide ((((x.bytes.getD i 0).toNat : Nat) : Int) < (((y.bytes.getD i 0).toNat : Nat) : Int))) = false := decide_eq_false hc19
        rw [hb21] at f
        have hnl := hc19
        refine c_false f rfl ?_
        refine wp_skip ?_
        refine then_n ?_
        refine quiet_seq (w := w18) mixed (by kernel_rfl) ?_
        refine q_move f (g_none rfl) rfl rfl ?_; clear f a; intro a f
        refine q_indexAddrA (j := i) (q := i) f (g_none rfl) rfl Try.underlying102 ti5 rfl rfl rfl (by omega) (by omega) ?_; clear f a; intro a f
        refine q_load (v := .int .u8 (((x.bytes.getD i 0).toNat : Nat) : Int)) f (g_none rfl) rfl sc5 rfl (hb2.cell' (idcellD _ _ (by omega))) ?_; clear f a; intro a f
        refine q_move f (g_none rfl) rfl rfl ?_; clear f a; intro a f
        refine q_indexAddrA (j := i) (q := i) f (g_none rfl) rfl Try.underlying102 ti5 rfl rfl rfl (by omega) (by omega) ?_; clear f a; intro a f
        refine q_load (v := .int .u8 (((y.bytes.getD i 0).toNat : Nat) : Int)) f (g_none rfl) rfl sc5 rfl (hb8.cell' (idcellD _ _ (by omega))) ?_; clear f a; intro a f
        refine q_bin f (g_none rfl) rfl rfl rfl rfl ?_; clear f a; intro a f
        refine quiet_nil ?_; intro w23 hx22
        replace hb2 := hb2.ext hx22
        replace hb8 := hb8.ext hx22
        replace hE := hE.tr hx22
        clear hx22
        by_cases hc24 : (((y.bytes.getD i 0).toNat : Nat) : Int) < (((x.bytes.getD i 0).toNat : Nat) : Int)
        · skip
          have hb25 : (decide ((((y.bytes.getD i 0).toNat : Nat) : Int) < (((x.bytes.getD i 0).toNat : Nat) : Int))) = true := decide_eq_true hc24
          rw [hb25] at f
          have hgt := hc24
          refine c_true f rfl ?_
          refine reg_seq ?_
          refine s_assign f (g_none rfl) rfl rfl ?_; clear f a; intro a f
          refine nil_then ?_
          refine wp_ret ?_
          refine blk_r ?_
          refine then_r ?_
          refine then_r ?_
          refine blk_r ?_
          refine then_r ?_
          refine retG (vs := [.int .i64 (1)]) f rfl ⟨rfl, trivial⟩ ?_
          exact ⟨congrArg Ending.returned ((congrArg (Value.int .i64) ((by rw [hxy]; exact (cmp_more (by omega) (by omega) (by omega)).symm)))), hE⟩
        · skip
          have hb26 : (decide ((((y.bytes.getD i 0).toNat : Nat) : Int) < (((x.bytes.getD i 0).toNat : Nat) : Int))) = false := decide_eq_false hc24
          rw [hb26] at f
          have hb : x.bytes.getD i 0 = y.bytes.getD i 0 := UInt8.toNat_inj.1 (by omega)
          refine c_false f rfl ?_
          refine wp_skip ?_
          refine blk_n ?_
          refine then_n ?_
          refine wp_region_lit ?_
          refine s_move f (g_none rfl) rfl rfl ?_; clear f a; intro a f
          refine s_bin f (g_none rfl) rfl rfl rfl (arith_add (r := ((i + 1 : Nat) : Int)) (wrap_i64 (by omega) (by omega))) ?_; clear f a; intro a f
          refine s_assign f (g_none rfl) rfl rfl ?_; clear f a; intro a f
          refine wpList_nil ?_
          refine then_n ?_
          refine ⟨(i + 1), ?_, ?_⟩
          · skip
            exact ⟨(Frm.pick f (Frm.pick f (Frm.pick f (Frm.pick f (Frm.pick f f.nil rfl) rfl) rfl) rfl) rfl), hE, hb2, hb8, (by omega), (by rw [hxy]; exact cmp_step (by omega) (by omega) hb)⟩
          · show 32 - (i + 1) < 32 - i; omega
    · skip
      have hb27 : (decide (((i : Nat) : Int) < 32)) = false := decide_eq_false hc15
      rw [hb27] at f
      refine c_false f rfl ?_
      refine wp_exit ?_
      refine then_e ?_
      refine then_e ?_
      refine blk_e ?_
      refine then_n ?_
      refine reg_seq ?_
      refine s_assign f (g_none rfl) rfl rfl ?_; clear f a; intro a f
      refine nil_then ?_
      refine wp_ret ?_
      refine retG (vs := [.int .i64 (0)]) f rfl ⟨rfl, trivial⟩ ?_
      exact ⟨congrArg Ending.returned ((congrArg (Value.int .i64) ((by rw [hxy]; exact (cmp_end (by omega) (by omega)).symm)))), hE⟩

set_option maxRecDepth 100000 in
theorem rrising_calls (p : Option Addr) (l : List ID32) (c : Nat) (w : World) (hr0 : RdL idsE w p c l) :
    Calls Try.prog 60 #[.slice p l.length c] w (fun e w' => e = .returned (.bool (decide (RisingP l))) ∧ Ext w w') := by
  have hle0 := hr0.le
  refine enter (n := 21) (l := [(0, .slice p l.length c)]) Try.func60 rfl rfl rfl rfl ?_; intro a f
  refine reg_seq ?_
  refine s_assign f (g_none rfl) rfl rfl ?_; clear f a; intro a f
  refine nil_then ?_
  refine wp_seq ?_
  refine reg_seq ?_
  refine s_assign f (g_none rfl) rfl rfl ?_; clear f a; intro a f
  refine nil_then ?_
  refine wp_block ?_
  refine loop_ghost (α := Nat) (fun gg a wr => let i := gg; Frm 21 [(0, .slice p l.length c), (3, .int .i64 ((i : Nat) : Int))] a ∧ Ext w wr ∧ 1 ≤ i ∧ i ≤ l.length + 1 ∧ ∀ k, k + 1 < i → k + 1 < l.length → Lib.compareBytes (l.getD k ID32.zero).bytes (l.getD (k + 1) ID32.zero).bytes < 0) (fun gg => let i := gg; l.length + 1 - i) (1) ?_ ?_
  · skip
    exact ⟨(Frm.pick f (Frm.pick f f.nil rfl) rfl), Ext.rfl', (by omega), (by omega), (fun k hk => by omega)⟩
  · skip
    clear f a
    rintro i a wr ⟨f, hE, hi, hi2, hup⟩
    refine wp_seq ?_
    refine reg_seq ?_
    refine s_move f (g_none rfl) rfl rfl ?_; clear f a; intro a f
    refine s_move f (g_none rfl) rfl rfl ?_; clear f a; intro a f
    refine t_len f (g_none rfl) rfl rfl Try.underlying83 rfl ?_; clear f a; intro a f
    refine s_bin f (g_none rfl) rfl rfl rfl rfl ?_; clear f a; intro a f
    refine nil_then ?_
    by_cases hc2 : ((i : Nat) : Int) < ((l.length : Nat) : Int)
    · skip
      have hb3 : (decide (((i : Nat) : Int) < ((l.length : Nat) : Int))) = true := decide_eq_true hc2
      rw [hb3] at f
      refine c_true f rfl ?_
      refine wp_skip ?_
      refine then_n ?_
      refine wp_seq ?_
      refine wp_block ?_
      refine quiet_seq (w := wr) mixed (by kernel_rfl) ?_
      refine q_move f (g_none rfl) rfl rfl ?_; clear f a; intro a f
      refine q_move f (g_none rfl) rfl rfl ?_; clear f a; intro a f
      refine q_bin f (g_none rfl) rfl rfl rfl (arith_sub (r := ((i - 1 : Nat) : Int)) (wrap_i64 (by omega) (by omega))) ?_; clear f a; intro a f
      refine u_indexAddr (j := i - 1) (E := idsE) f (g_none rfl) rfl Try.underlying83 ti102 rfl (hr0.ext hE) rfl rfl rfl (by omega) ?_; clear f a; intro a f
      refine u_loadA (j := i - 1) (e := l.getD (i - 1) ID32.zero) (E := idsE) f (g_none rfl) rfl ag102 ti102 rfl (hr0.ext hE) rfl rfl (getD_some (by omega)) ?_; clear f a; intro a f
      refine q_move f (g_none rfl) rfl rfl ?_; clear f a; intro a f
      refine q_move f (g_none rfl) rfl rfl ?_; clear f a; intro a f
      refine u_indexAddr (j := i) (E := idsE) f (g_none rfl) rfl Try.underlying83 ti102 rfl (hr0.ext hE) rfl rfl rfl (by omega) ?_; clear f a; intro a f
      refine u_loadA (j := i) (e := l.getD i ID32.zero) (E := idsE) f (g_none rfl) rfl ag102 ti102 rfl (hr0.ext hE) rfl rfl (getD_some (by omega)) ?_; clear f a; intro a f
      refine q_call f (g_none rfl) rfl Try.func116 rfl rfl (ev2 f rfl rfl) (fun wq hq => (rcmp_calls (x := l.getD (i - 1) ID32.zero) (y := l.getD i ID32.zero) (w := wq) ).mono fun e w2 ⟨h1, h2⟩ => ⟨h1, h2⟩) ?_; clear f a; intro a f
      refine q_bin f (g_none rfl) rfl rfl rfl rfl ?_; clear f a; intro a f
      refine quiet_nil ?_; intro w5 hx4
      replace hE := hE.tr hx4
      clear hx4
      by_cases hc6 : 0 ≤ Lib.compareBytes (l.getD (i - 1) ID32.zero).bytes (l.getD i ID32.zero).bytes
      · skip
        have hb7 : (decide (0 ≤ Lib.compareBytes (l.getD (i - 1) ID32.zero).bytes (l.getD i ID32.zero).bytes)) = true := decide_eq_true hc6
        rw [hb7] at f
        have hge := hc6
        refine c_true f rfl ?_
        refine reg_seq ?_
        refine s_assign f (g_none rfl) rfl rfl ?_; clear f a; intro a f
        refine nil_then ?_
        refine wp_ret ?_
        refine blk_r ?_
        refine then_r ?_
        refine then_r ?_
        refine blk_r ?_
        refine then_r ?_
        refine retG (vs := [.bool false]) f rfl ⟨rfl, trivial⟩ ?_
        exact ⟨congrArg Ending.returned ((congrArg Value.bool ((decide_eq_false (fun h => by have := h (i - 1) (by omega); rw [show i - 1 + 1 = i by omega] at this; omega)).symm))), hE⟩
      · skip
        have hb8 : (decide (0 ≤ Lib.compareBytes (l.getD (i - 1) ID32.zero).bytes (l.getD i ID32.zero).bytes)) = false := decide_eq_false hc6
        rw [hb8] at f
        have hlt := hc6
        refine c_false f rfl ?_
        refine wp_skip ?_
        refine blk_n ?_
        refine then_n ?_
        refine wp_region_lit ?_
        refine s_move f (g_none rfl) rfl rfl ?_; clear f a; intro a f
        refine s_bin f (g_none rfl) rfl rfl rfl (arith_add (r := ((i + 1 : Nat) : Int)) (wrap_i64 (by omega) (by omega))) ?_; clear f a; intro a f
        refine s_assign f (g_none rfl) rfl rfl ?_; clear f a; intro a f
        refine wpList_nil ?_
        refine then_n ?_
        have hup2 : ∀ k, k + 1 < i + 1 → k + 1 < l.length → Lib.compareBytes (l.getD k ID32.zero).bytes (l.getD (k + 1) ID32.zero).bytes < 0 := by
          intro k hk hl
          rcases Nat.lt_or_ge (k + 1) i with h | h
          · exact hup k h hl
          · obtain rfl : k = i - 1 := by omega
            rw [show i - 1 + 1 = i by omega]; omega
        refine ⟨(i + 1), ?_, ?_⟩
        · skip
          exact ⟨(Frm.pick f (Frm.pick f f.nil rfl) rfl), hE, (by omega), (by omega), hup2⟩
        · show l.length + 1 - (i + 1) < l.length + 1 - i; omega
    · skip
      have hb9 : (decide (((i : Nat) : Int) < ((l.length : Nat) : Int))) = false := decide_eq_false hc2
      rw [hb9] at f
      refine c_false f rfl ?_
      refine wp_exit ?_
      refine then_e ?_
      refine then_e ?_
      refine blk_e ?_
      refine then_n ?_
      refine reg_seq ?_
      refine s_assign f (g_none rfl) rfl rfl ?_; clear f a; intro a f
      refine nil_then ?_
      refine wp_ret ?_
      refine retG (vs := [.bool true]) f rfl ⟨rfl, trivial⟩ ?_
      exact ⟨congrArg Ending.returned ((congrArg Value.bool ((decide_eq_true (p := RisingP l) (fun k hk => hup k (by omega) hk)).symm))), hE⟩

set_option maxRecDepth 100000 in
theorem sameids_calls (p : Option Addr) (x : List ID32) (c : Nat) (q : Option Addr) (y : List ID32) (d : Nat) (w : World) (hr0 : RdL idsE w p c x) (hr1 : RdL idsE w q d y) :
    Calls Try.prog 62 #[.slice p x.length c, .slice q y.length d] w (fun e w' => e = .returned (.bool (decide (x = y))) ∧ Ext w w') := by
  have hle0 := hr0.le
  have hle1 := hr1.le
  refine enter (n := 26) (l := [(0, .slice p x.length c), (1, .slice q y.length d)]) Try.func62 rfl rfl rfl rfl ?_; intro a f
  refine reg_seq ?_
  refine s_assign f (g_none rfl) rfl rfl ?_; clear f a; intro a f
  refine nil_then ?_
  refine wp_seq ?_
  refine reg_seq ?_
  refine s_move f (g_none rfl) rfl rfl ?_; clear f a; intro a f
  refine t_len f (g_none rfl) rfl rfl Try.underlying83 rfl ?_; clear f a; intro a f
  refine s_move f (g_none rfl) rfl rfl ?_; clear f a; intro a f
  refine t_len f (g_none rfl) rfl rfl Try.underlying83 rfl ?_; clear f a; intro a f
  refine s_bin (v := .bool (decide (((x.length : Nat) : Int) ≠ ((y.length : Nat) : Int)))) f (g_none rfl) rfl rfl rfl arith_neq ?_; clear f a; intro a f
  refine nil_then ?_
  by_cases hc1 : ((x.length : Nat) : Int) ≠ ((y.length : Nat) : Int)
  · skip
    have hb2 : (decide (((x.length : Nat) : Int) ≠ ((y.length : Nat) : Int))) = true := decide_eq_true hc1
    rw [hb2] at f
    have hne := hc1
    refine c_true f rfl ?_
    refine reg_seq ?_
    refine s_assign f (g_none rfl) rfl rfl ?_; clear f a; intro a f
    refine nil_then ?_
    refine wp_ret ?_
    refine then_r ?_
    refine retG (vs := [.bool false]) f rfl ⟨rfl, trivial⟩ ?_
    exact ⟨congrArg Ending.returned ((congrArg Value.bool ((decide_eq_false (fun e => hne (by rw [e]))).symm))), Ext.rfl'⟩
  · skip
    have hb3 : (decide (((x.length : Nat) : Int) ≠ ((y.length : Nat) : Int))) = false := decide_eq_false hc1
    rw [hb3] at f
    have hlen : x.length = y.length := by omega
    refine c_false f rfl ?_
    refine wp_skip ?_
    refine then_n ?_
    refine wp_seq ?_
    refine reg_seq ?_
    refine s_assign f (g_none rfl) rfl rfl ?_; clear f a; intro a f
    refine nil_then ?_
    refine wp_block ?_
    refine loop_ghost (α := Nat) (fun gg a wr => let i := gg; Frm 26 [(0, .slice p x.length c), (1, .slice q y.length d), (5, .int .i64 ((i : Nat) : Int))] a ∧ Ext w wr ∧ i ≤ x.length ∧ x.take i = y.take i) (fun gg => let i := gg; x.length - i) (0) ?_ ?_
    · skip
      exact ⟨(Frm.pick f (Frm.pick f (Frm.pick f f.nil rfl) rfl) rfl), Ext.rfl', (by omega), (by simp)⟩
    · skip
      clear f a
      rintro i a wr ⟨f, hE, hi, hxy⟩
      refine wp_seq ?_
      refine reg_seq ?_
      refine s_move f (g_none rfl) rfl rfl ?_; clear f a; intro a f
      refine s_move f (g_none rfl) rfl rfl ?_; clear f a; intro a f
      refine t_len f (g_none rfl) rfl rfl Try.underlying83 rfl ?_; clear f a; intro a f
      refine s_bin f (g_none rfl) rfl rfl rfl rfl ?_; clear f a; intro a f
      refine nil_then ?_
      by_cases hc5 : ((i : Nat) : Int) < ((x.length : Nat) : Int)
      · skip
        have hb6 : (decide (((i : Nat) : Int) < ((x.length : Nat) : Int))) = true := decide_eq_true hc5
        rw [hb6] at f
        refine c_true f rfl ?_
        refine wp_skip ?_
        refine then_n ?_
        refine wp_seq ?_
        refine wp_block ?_
        refine quiet_seq (w := wr) mixed (by kernel_rfl) ?_
        refine q_move f (g_none rfl) rfl rfl ?_; clear f a; intro a f
        refine q_move f (g_none rfl) rfl rfl ?_; clear f a; intro a f
        refine u_indexAddr (j := i) (E := idsE) f (g_none rfl) rfl Try.underlying83 ti102 rfl (hr0.ext hE) rfl rfl rfl (by omega) ?_; clear f a; intro a f
        refine u_loadA (j := i) (e := x.getD i ID32.zero) (E := idsE) f (g_none rfl) rfl ag102 ti102 rfl (hr0.ext hE) rfl rfl (getD_some (by omega)) ?_; clear f a; intro a f
        refine q_move f (g_none rfl) rfl rfl ?_; clear f a; intro a f
        refine q_move f (g_none rfl) rfl rfl ?_; clear f a; intro a f
        refine u_indexAddr (j := i) (E := idsE) f (g_none rfl) rfl Try.underlying83 ti102 rfl (hr1.ext hE) rfl rfl rfl (by omega) ?_; clear f a; intro a f
        refine u_loadA (j := i) (e := y.getD i ID32.zero) (E := idsE) f (g_none rfl) rfl ag102 ti102 rfl (hr1.ext hE) rfl rfl (getD_some (by omega)) ?_; clear f a; intro a f
        refine q_neqID f (g_none rfl) rfl Try.underlying102 ti5 Try.underlying5 rfl rfl ?_; clear f a; intro a f
        refine quiet_nil ?_; intro w8 hx7
        replace hE := hE.tr hx7
        clear hx7
        by_cases hc9 : x.getD i ID32.zero ≠ y.getD i ID32.zero
        · skip
          have hb10 : (decide (x.getD i ID32.zero ≠ y.getD i ID32.zero)) = true := decide_eq_true hc9
          rw [hb10] at f
          have hne := hc9
          refine c_true f rfl ?_
          refine reg_seq ?_
          refine s_assign f (g_none rfl) rfl rfl ?_; clear f a; intro a f
          refine nil_then ?_
          refine wp_ret ?_
          refine blk_r ?_
          refine then_r ?_
          refine then_r ?_
          refine blk_r ?_
          refine then_r ?_
          refine retG (vs := [.bool false]) f rfl ⟨rfl, trivial⟩ ?_
          exact ⟨congrArg Ending.returned ((congrArg Value.bool ((decide_eq_false (fun e => hne (by rw [e]))).symm))), hE⟩
        · skip
          have hb11 : (decide (x.getD i ID32.zero ≠ y.getD i ID32.zero)) = false := decide_eq_false hc9
          rw [hb11] at f
          have hb : x.getD i ID32.zero = y.getD i ID32.zero := Classical.not_not.1 hc9
          refine c_false f rfl ?_
          refine wp_skip ?_
          refine blk_n ?_
          refine then_n ?_
          refine wp_region_lit ?_
          refine s_move f (g_none rfl) rfl rfl ?_; clear f a; intro a f
          refine s_bin f (g_none rfl) rfl rfl rfl (arith_add (r := ((i + 1 : Nat) : Int)) (wrap_i64 (by omega) (by omega))) ?_; clear f a; intro a f
          refine s_assign f (g_none rfl) rfl rfl ?_; clear f a; intro a f
          refine wpList_nil ?_
          refine then_n ?_
          refine ⟨(i + 1), ?_, ?_⟩
          · skip
            exact ⟨(Frm.pick f (Frm.pick f (Frm.pick f f.nil rfl) rfl) rfl), hE, (by omega), (by rw [take_snocG ID32.zero (by omega), take_snocG ID32.zero (by omega), hxy, hb])⟩
          · show x.length - (i + 1) < x.length - i; omega
      · skip
        have hb12 : (decide (((i : Nat) : Int) < ((x.length : Nat) : Int))) = false := decide_eq_false hc5
        rw [hb12] at f
        refine c_false f rfl ?_
        refine wp_exit ?_
        refine then_e ?_
        refine then_e ?_
        refine blk_e ?_
        refine then_n ?_
        refine reg_seq ?_
        refine s_assign f (g_none rfl) rfl rfl ?_; clear f a; intro a f
        refine nil_then ?_
        refine wp_ret ?_
        refine retG (vs := [.bool true]) f rfl ⟨rfl, trivial⟩ ?_
        exact ⟨congrArg Ending.returned ((congrArg Value.bool ((decide_eq_true (by rw [List.take_of_length_le (by omega), List.take_of_length_le (by omega)] at hxy; exact hxy)).symm))), hE⟩

end Go.Proofs.Ytklfgpdfongaeaa
