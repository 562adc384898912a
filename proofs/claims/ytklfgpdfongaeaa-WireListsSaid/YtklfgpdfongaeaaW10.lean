/- Walks. -/
import Derived.Test.YtklfgpdfongaeaaW9
import Derived.Test.YtklfgpdfongaeaaWireSpec5
namespace Go.Proofs.Ytklfgpdfongaeaa
open Go Go.RowKit
set_option linter.unusedSimpArgs false
set_option linter.unusedVariables false

set_option maxRecDepth 100000 in
theorem rrids_calls (p : Option Addr) (b : List UInt8) (c : Nat) (m : Int) (h1 : -9223372036854775808 ≤ m) (h2 : m ≤ 9223372036854775807) (hb : b.length ≤ 1000000) (w : World) (hr0 : RdL bytesE w p c b) :
    Calls Try.prog 66 #[.slice p b.length c, .int .i64 m] w (fun e w' => ∃ q : Option Addr, ∃ d : Nat, e = .returned (.tuple #[.slice q ((readI b m).1).length d, .int .i64 (((readI b m).2.1 : Nat) : Int), .int .i64 (((readI b m).2.2 : Nat) : Int)]) ∧ Ext w w' ∧ OwL idsE w' w.heap.size 102 q d ((readI b m).1)) := by
  have hrl := readN_lt b
  have hru := readN_used b
  have hle0 := hr0.le
  refine enter (n := 74) (l := [(0, .slice p b.length c), (1, .int .i64 m)]) Try.func66 rfl rfl rfl rfl ?_; intro a f
  refine reg_seq ?_
  refine s_assign f (g_none rfl) rfl rfl ?_; clear f a; intro a f
  refine s_assign f (g_none rfl) rfl rfl ?_; clear f a; intro a f
  refine s_assign f (g_none rfl) rfl rfl ?_; clear f a; intro a f
  refine nil_then ?_
  refine wp_seq ?_
  refine reg_seq ?_
  refine s_move f (g_none rfl) rfl rfl ?_; clear f a; intro a f
  refine s_bin f (g_none rfl) rfl rfl rfl rfl ?_; clear f a; intro a f
  refine nil_then ?_
  by_cases hc1 : m < 0
  · skip
    have hb2 : (decide (m < 0)) = true := decide_eq_true hc1
    rw [hb2] at f
    refine c_true f rfl ?_
    refine reg_seq ?_
    refine s_assign f (g_none rfl) rfl rfl ?_; clear f a; intro a f
    refine s_assign f (g_none rfl) rfl rfl ?_; clear f a; intro a f
    refine s_assign f (g_none rfl) rfl rfl ?_; clear f a; intro a f
    refine nil_then ?_
    refine wp_ret ?_
    refine then_r ?_
    refine retG (vs := [.slice none 0 0, .int .i64 (0), .int .i64 (2)]) f rfl ⟨rfl, rfl, rfl, trivial⟩ ?_
    have hp := partL_arg (b := b) (k := 32) (most := m) (by omega)
    have hg := readI_bad (b := b) (most := m) (by rw [hp]; decide)
    rw [hp] at hg
    have hl3 : [] = (readI b m).1 := by rw [hg]
    exact ⟨none, 0, congrArg Ending.returned (tup3 (congrArg (fun l : List ID32 => Value.slice none l.length 0) hl3) (congrArg (Value.int .i64) (by rw [hg] <;> rfl)) (congrArg (Value.int .i64) (by rw [hg] <;> rfl))), Ext.rfl', (hl3 ▸ OwL.nil)⟩
  · skip
    have hb4 : (decide (m < 0)) = false := decide_eq_false hc1
    rw [hb4] at f
    obtain ⟨mn, hmn⟩ : ∃ mn : Nat, m = (mn : Int) := ⟨m.toNat, by omega⟩
    refine c_false f rfl ?_
    refine wp_skip ?_
    refine then_n ?_
    refine reg_seq ?_
    refine s_move f (g_none rfl) rfl rfl ?_; clear f a; intro a f
    refine s_call f (g_none rfl) rfl Try.func27 rfl rfl (ev1 f rfl) (rreadn_calls (p := p) (b := b) (c := c) (w := _) (hr0 := hr0)) ?_
    rintro _ w5 ⟨rfl, hx6⟩; refine ⟨_, rfl, ?_⟩; clear f a; intro a f
    have hE := hx6; clear hx6
    refine s_move f (g_none rfl) rfl rfl ?_; clear f a; intro a f
    refine s_extract (v := .int .u64 (((readN b).1 : Nat) : Int)) f (g_none rfl) rfl rfl rfl ?_; clear f a; intro a f
    refine s_extract (v := .int .i64 (((readN b).2.1 : Nat) : Int)) f (g_none rfl) rfl rfl rfl ?_; clear f a; intro a f
    refine s_extract (v := .int .i64 (((readN b).2.2 : Nat) : Int)) f (g_none rfl) rfl rfl rfl ?_; clear f a; intro a f
    refine s_assign f (g_none rfl) rfl rfl ?_; clear f a; intro a f
    refine s_assign f (g_none rfl) rfl rfl ?_; clear f a; intro a f
    refine s_assign f (g_none rfl) rfl rfl ?_; clear f a; intro a f
    refine nil_then ?_
    refine wp_seq ?_
    refine reg_seq ?_
    refine s_move f (g_none rfl) rfl rfl ?_; clear f a; intro a f
    refine s_bin (v := .bool (decide ((((readN b).2.2 : Nat) : Int) ≠ 0))) f (g_none rfl) rfl rfl rfl arith_neq ?_; clear f a; intro a f
    refine s_move f (g_none rfl) rfl rfl ?_; clear f a; intro a f
    by_cases hc7 : (((readN b).2.2 : Nat) : Int) ≠ 0
    · skip
      have hb8 : (decide ((((readN b).2.2 : Nat) : Int) ≠ 0)) = true := decide_eq_true hc7
      rw [hb8] at f
      refine s_skip f (g_no f rfl rfl rfl) rfl ?_; clear f a; intro a f
      refine s_skip f (g_no f rfl rfl rfl) rfl ?_; clear f a; intro a f
      refine s_skip f (g_no f rfl rfl rfl) rfl ?_; clear f a; intro a f
      refine s_skip f (g_no f rfl rfl rfl) rfl ?_; clear f a; intro a f
      refine s_pick (r := .bool true) f (g_none rfl) rfl rfl rfl rfl rfl ?_; clear f a; intro a f
      refine s_move f (g_none rfl) rfl rfl ?_; clear f a; intro a f
      refine s_skip f (g_no f rfl rfl rfl) rfl ?_; clear f a; intro a f
      refine s_skip f (g_no f rfl rfl rfl) rfl ?_; clear f a; intro a f
      refine s_skip f (g_no f rfl rfl rfl) rfl ?_; clear f a; intro a f
      refine s_skip f (g_no f rfl rfl rfl) rfl ?_; clear f a; intro a f
      refine s_skip f (g_no f rfl rfl rfl) rfl ?_; clear f a; intro a f
      refine s_skip f (g_no f rfl rfl rfl) rfl ?_; clear f a; intro a f
      refine s_skip f (g_no f rfl rfl rfl) rfl ?_; clear f a; intro a f
      refine s_skip f (g_no f rfl rfl rfl) rfl ?_; clear f a; intro a f
      refine s_pick (r := .bool true) f (g_none rfl) rfl rfl rfl rfl rfl ?_; clear f a; intro a f
      refine nil_then ?_
      refine c_true f rfl ?_
      refine reg_seq ?_
      refine s_assign f (g_none rfl) rfl rfl ?_; clear f a; intro a f
      refine s_assign f (g_none rfl) rfl rfl ?_; clear f a; intro a f
      refine s_assign f (g_none rfl) rfl rfl ?_; clear f a; intro a f
      refine nil_then ?_
      refine wp_ret ?_
      refine then_r ?_
      refine retG (vs := [.slice none 0 0, .int .i64 (0), .int .i64 (12)]) f rfl ⟨rfl, rfl, rfl, trivial⟩ ?_
      have hp := partL_bad (b := b) (k := 32) (most := m) (by omega) (by omega)
      have hg := readI_bad (b := b) (most := m) (by rw [hp]; decide)
      rw [hp] at hg
      have hl9 : [] = (readI b m).1 := by rw [hg]
      exact ⟨none, 0, congrArg Ending.returned (tup3 (congrArg (fun l : List ID32 => Value.slice none l.length 0) hl9) (congrArg (Value.int .i64) (by rw [hg] <;> rfl)) (congrArg (Value.int .i64) (by rw [hg] <;> rfl))), hE, (hl9 ▸ OwL.nil)⟩
    · skip
      have hb10 : (decide ((((readN b).2.2 : Nat) : Int) ≠ 0)) = false := decide_eq_false hc7
      rw [hb10] at f
      refine s_move f (g_yes f rfl rfl rfl) rfl rfl ?_; clear f a; intro a f
      refine s_move f (g_yes f rfl rfl rfl) rfl rfl ?_; clear f a; intro a f
      refine s_conv (r := m) f (g_yes f rfl rfl rfl) rfl Try.underlying3 Try.underlying31 rfl (wrap_u64 (by omega) (by omega)) ?_; clear f a; intro a f
      refine s_bin f (g_yes f rfl rfl rfl) rfl rfl rfl rfl ?_; clear f a; intro a f
      refine s_pick (r := .bool (decide (m < (((readN b).1 : Nat) : Int)))) f (g_none rfl) rfl rfl rfl rfl rfl ?_; clear f a; intro a f
      refine s_move f (g_none rfl) rfl rfl ?_; clear f a; intro a f
      by_cases hc11 : m < (((readN b).1 : Nat) : Int)
      · skip
        have hb12 : (decide (m < (((readN b).1 : Nat) : Int))) = true := decide_eq_true hc11
        rw [hb12] at f
        refine s_skip f (g_no f rfl rfl rfl) rfl ?_; clear f a; intro a f
        refine s_skip f (g_no f rfl rfl rfl) rfl ?_; clear f a; intro a f
        refine s_skip f (g_no f rfl rfl rfl) rfl ?_; clear f a; intro a f
        refine s_skip f (g_no f rfl rfl rfl) rfl ?_; clear f a; intro a f
        refine s_skip f (g_no f rfl rfl rfl) rfl ?_; clear f a; intro a f
        refine s_skip f (g_no f rfl rfl rfl) rfl ?_; clear f a; intro a f
        refine s_skip f (g_no f rfl rfl rfl) rfl ?_; clear f a; intro a f
        refine s_skip f (g_no f rfl rfl rfl) rfl ?_; clear f a; intro a f
        refine s_pick (r := .bool true) f (g_none rfl) rfl rfl rfl rfl rfl ?_; clear f a; intro a f
        refine nil_then ?_
        refine c_true f rfl ?_
        refine reg_seq ?_
        refine s_assign f (g_none rfl) rfl rfl ?_; clear f a; intro a f
        refine s_assign f (g_none rfl) rfl rfl ?_; clear f a; intro a f
        refine s_assign f (g_none rfl) rfl rfl ?_; clear f a; intro a f
        refine nil_then ?_
        refine wp_ret ?_
        refine then_r ?_
        refine retG (vs := [.slice none 0 0, .int .i64 (0), .int .i64 (12)]) f rfl ⟨rfl, rfl, rfl, trivial⟩ ?_
        have hp := partL_bad (b := b) (k := 32) (most := m) (by omega) (by omega)
        have hg := readI_bad (b := b) (most := m) (by rw [hp]; decide)
        rw [hp] at hg
        have hl13 : [] = (readI b m).1 := by rw [hg]
        exact ⟨none, 0, congrArg Ending.returned (tup3 (congrArg (fun l : List ID32 => Value.slice none l.length 0) hl13) (congrArg (Value.int .i64) (by rw [hg] <;> rfl)) (congrArg (Value.int .i64) (by rw [hg] <;> rfl))), hE, (hl13 ▸ OwL.nil)⟩
      · skip
        have hb14 : (decide (m < (((readN b).1 : Nat) : Int))) = false := decide_eq_false hc11
        rw [hb14] at f
        refine s_move f (g_yes f rfl rfl rfl) rfl rfl ?_; clear f a; intro a f
        refine s_move f (g_yes f rfl rfl rfl) rfl rfl ?_; clear f a; intro a f
        refine t_len f (g_yes f rfl rfl rfl) rfl rfl Try.underlying32 rfl ?_; clear f a; intro a f
        refine s_move f (g_yes f rfl rfl rfl) rfl rfl ?_; clear f a; intro a f
        refine s_bin f (g_yes f rfl rfl rfl) rfl rfl rfl (arith_sub (r := ((b.length - ((readN b).2.1) : Nat) : Int)) (wrap_i64 (by omega) (by omega))) ?_; clear f a; intro a f
        refine s_conv (r := ((b.length - ((readN b).2.1) : Nat) : Int)) f (g_yes f rfl rfl rfl) rfl Try.underlying3 Try.underlying31 rfl (nat_u64 (b.length - ((readN b).2.1)) (by omega)) ?_; clear f a; intro a f
        refine s_quo (r := (((b.length - (readN b).2.1) / 32 : Nat) : Int)) f (g_yes f rfl rfl rfl) rfl rfl rfl (by omega) (quo_u64 (x := b.length - (readN b).2.1) (y := 32) (by omega) (by decide)) ?_; clear f a; intro a f
        refine s_bin f (g_yes f rfl rfl rfl) rfl rfl rfl rfl ?_; clear f a; intro a f
        refine s_pick (r := .bool (decide ((((b.length - (readN b).2.1) / 32 : Nat) : Int) < (((readN b).1 : Nat) : Int)))) f (g_none rfl) rfl rfl rfl rfl rfl ?_; clear f a; intro a f
        refine nil_then ?_
        by_cases hc15 : (((b.length - (readN b).2.1) / 32 : Nat) : Int) < (((readN b).1 : Nat) : Int)
        · skip
          have hb16 : (decide ((((b.length - (readN b).2.1) / 32 : Nat) : Int) < (((readN b).1 : Nat) : Int))) = true := decide_eq_true hc15
          rw [hb16] at f
          refine c_true f rfl ?_
          refine reg_seq ?_
          refine s_assign f (g_none rfl) rfl rfl ?_; clear f a; intro a f
          refine s_assign f (g_none rfl) rfl rfl ?_; clear f a; intro a f
          refine s_assign f (g_none rfl) rfl rfl ?_; clear f a; intro a f
          refine nil_then ?_
          refine wp_ret ?_
          refine then_r ?_
          refine retG (vs := [.slice none 0 0, .int .i64 (0), .int .i64 (12)]) f rfl ⟨rfl, rfl, rfl, trivial⟩ ?_
          have hp := partL_bad (b := b) (k := 32) (most := m) (by omega) (by omega)
          have hg := readI_bad (b := b) (most := m) (by rw [hp]; decide)
          rw [hp] at hg
          have hl17 : [] = (readI b m).1 := by rw [hg]
          exact ⟨none, 0, congrArg Ending.returned (tup3 (congrArg (fun l : List ID32 => Value.slice none l.length 0) hl17) (congrArg (Value.int .i64) (by rw [hg] <;> rfl)) (congrArg (Value.int .i64) (by rw [hg] <;> rfl))), hE, (hl17 ▸ OwL.nil)⟩
        · skip
          have hb18 : (decide ((((b.length - (readN b).2.1) / 32 : Nat) : Int) < (((readN b).1 : Nat) : Int))) = false := decide_eq_false hc15
          rw [hb18] at f
          refine c_false f rfl ?_
          refine wp_skip ?_
          refine then_n ?_
          refine reg_seq ?_
          refine s_assign f (g_none rfl) rfl rfl ?_; clear f a; intro a f
          refine nil_then ?_
          refine wp_seq ?_
          refine reg_seq ?_
          refine s_assign f (g_none rfl) rfl rfl ?_; clear f a; intro a f
          refine nil_then ?_
          refine wp_block ?_
          refine loop_ghost (α := Nat × Option Addr × Nat) (fun gg a wr => let ⟨i, pw, cw⟩ := gg; Frm 74 [(0, .slice p b.length c), (1, .int .i64 m), (4, .slice none 0 0), (5, .int .i64 (0)), (6, .int .i64 (0)), (7, .int .u64 (((readN b).1 : Nat) : Int)), (8, .int .i64 (((readN b).2.1 : Nat) : Int)), (9, .int .i64 (((readN b).2.2 : Nat) : Int)), (10, .slice pw (rdIDs b (readN b).2.1 i).length cw), (11, .int .i64 ((i : Nat) : Int))] a ∧ Ext w wr ∧ OwL idsE wr w.heap.size 102 pw cw (rdIDs b (readN b).2.1 i) ∧ i ≤ (readN b).1) (fun gg => let ⟨i, pw, cw⟩ := gg; (readN b).1 - i) (0, none, 0) ?_ ?_
          · skip
            exact ⟨(Frm.pick f (Frm.pick f (Frm.pick f (Frm.pick f (Frm.pick f (Frm.pick f (Frm.pick f (Frm.pick f (Frm.pick f (Frm.pick f f.nil rfl) (look_eq rfl (rfl))) rfl) rfl) rfl) rfl) rfl) rfl) rfl) rfl), hE, OwL.nil, (by omega)⟩
          · skip
            clear f a
            clear hE
            rintro ⟨i, pw, cw⟩ a wr ⟨f, hE, hw, hi⟩
            have hrl2 := rdIDs_len b (readN b).2.1 i
            refine wp_seq ?_
            refine reg_seq ?_
            refine s_move f (g_none rfl) rfl rfl ?_; clear f a; intro a f
            refine s_move f (g_none rfl) rfl rfl ?_; clear f a; intro a f
            refine s_conv (r := (((readN b).1 : Nat) : Int)) f (g_none rfl) rfl Try.underlying31 Try.underlying3 rfl (nat_i64 ((readN b).1) (by omega)) ?_; clear f a; intro a f
            refine s_bin f (g_none rfl) rfl rfl rfl rfl ?_; clear f a; intro a f
            refine nil_then ?_
            by_cases hc20 : ((i : Nat) : Int) < (((readN b).1 : Nat) : Int)
            · skip
              have hb21 : (decide (((i : Nat) : Int) < (((readN b).1 : Nat) : Int))) = true := decide_eq_true hc20
              rw [hb21] at f
              refine c_true f rfl ?_
              refine wp_skip ?_
              refine then_n ?_
              refine wp_seq ?_
              refine wp_block ?_
              refine reg_seq ?_
              refine s_alloc f (g_none rfl) rfl ti102 ?_; clear f a; intro a w26 b22 f hx24 hb23 hl25
              change Bx w26 b22 #[.int .u8 (0), .int .u8 (0), .int .u8 (0), .int .u8 (0), .int .u8 (0), .int .u8 (0), .int .u8 (0), .int .u8 (0), .int .u8 (0), .int .u8 (0), .int .u8 (0), .int .u8 (0), .int .u8 (0), .int .u8 (0), .int .u8 (0), .int .u8 (0), .int .u8 (0), .int .u8 (0), .int .u8 (0), .int .u8 (0), .int .u8 (0), .int .u8 (0), .int .u8 (0), .int .u8 (0), .int .u8 (0), .int .u8 (0), .int .u8 (0), .int .u8 (0), .int .u8 (0), .int .u8 (0), .int .u8 (0), .int .u8 (0)] 102 at hb23
              have hlo27 : w.heap.size ≤ b22 := Nat.le_trans hE.size hl25
              have hs28 : sblk pw ≠ some b22 := fun e => by have h2 := (hw.lt e).2; omega
              clear hl25
              replace hw := hw.ext hx24
              replace hE := hE.tr hx24
              clear hx24
              refine nil_then ?_
              refine wp_seq ?_
              refine reg_seq ?_
              refine s_assign f (g_none rfl) rfl rfl ?_; clear f a; intro a f
              refine nil_then ?_
              refine wp_block ?_
              refine loop_ghost (α := Nat) (fun gg a wr => let k := gg; Frm 74 [(0, .slice p b.length c), (1, .int .i64 m), (4, .slice none 0 0), (5, .int .i64 (0)), (6, .int .i64 (0)), (7, .int .u64 (((readN b).1 : Nat) : Int)), (8, .int .i64 (((readN b).2.1 : Nat) : Int)), (9, .int .i64 (((readN b).2.2 : Nat) : Int)), (10, .slice pw (rdIDs b (readN b).2.1 i).length cw), (11, .int .i64 ((i : Nat) : Int)), (12, .pointer (some ⟨b22, 0, none⟩)), (13, .int .i64 ((k : Nat) : Int))] a ∧ Ext w wr ∧ OwL idsE wr w.heap.size 102 pw cw (rdIDs b (readN b).2.1 i) ∧ Bx wr b22 ((idsE.of (idPart b ((readN b).2.1 + 32 * i) k)).toArray) 102 ∧ sblk pw ≠ some b22 ∧ k ≤ 32) (fun gg => let k := gg; 32 - k) (0) ?_ ?_
              · skip
                exact ⟨(Frm.pick f (Frm.pick f (Frm.pick f (Frm.pick f (Frm.pick f (Frm.pick f (Frm.pick f (Frm.pick f (Frm.pick f (Frm.pick f (Frm.pick f (Frm.pick f f.nil rfl) rfl) rfl) rfl) rfl) rfl) rfl) rfl) rfl) rfl) rfl) rfl), hE, hw, (by rw [idPart_zero]; exact hb23), hs28, (by omega)⟩
              · skip
                clear f a
                clear hw
                clear hb23
                clear hE
                rintro k a wr ⟨f, hE, hw, hbx, hs30, hk⟩
                refine wp_seq ?_
                refine reg_seq ?_
                refine s_move f (g_none rfl) rfl rfl ?_; clear f a; intro a f
                refine s_bin f (g_none rfl) rfl rfl rfl rfl ?_; clear f a; intro a f
                refine nil_then ?_
                by_cases hc31 : ((k : Nat) : Int) < 32
                · skip
                  have hb32 : (decide (((k : Nat) : Int) < 32)) = true := decide_eq_true hc31
                  rw [hb32] at f
                  refine c_true f rfl ?_
                  refine wp_skip ?_
                  refine then_n ?_
                  refine wp_seq ?_
                  refine wp_block ?_
                  refine wp_region_lit ?_
                  refine s_move f (g_none rfl) rfl rfl ?_; clear f a; intro a f
                  refine s_move f (g_none rfl) rfl rfl ?_; clear f a; intro a f
                  refine s_move f (g_none rfl) rfl rfl ?_; clear f a; intro a f
                  refine s_move f (g_none rfl) rfl rfl ?_; clear f a; intro a f
                  refine s_bin f (g_none rfl) rfl rfl rfl (arith_mul (r := ((32 * i : Nat) : Int)) (wrap_i64 (by omega) (by omega))) ?_; clear f a; intro a f
                  refine s_bin f (g_none rfl) rfl rfl rfl (arith_add (r := (((readN b).2.1 + (32 * i) : Nat) : Int)) (wrap_i64 (by omega) (by omega))) ?_; clear f a; intro a f
                  refine s_move f (g_none rfl) rfl rfl ?_; clear f a; intro a f
                  refine s_bin f (g_none rfl) rfl rfl rfl (arith_add (r := (((readN b).2.1 + (32 * i) + k : Nat) : Int)) (wrap_i64 (by omega) (by omega))) ?_; clear f a; intro a f
                  refine t_indexAddr (j := (readN b).2.1 + 32 * i + k) (E := bytesE) f (g_none rfl) rfl Try.underlying32 ti5 rfl (hr0.ext hE) rfl rfl (by omega) (by omega) ?_; clear f a; intro a f
                  refine t_load (j := (readN b).2.1 + 32 * i + k) (e := b.getD ((readN b).2.1 + 32 * i + k) 0) (E := bytesE) f (g_none rfl) rfl sc5 rfl (hr0.ext hE) rfl (getD_some (by omega)) rfl ?_; clear f a; intro a f
                  refine s_indexAddrA (j := k) (q := k) f (g_none rfl) rfl Try.underlying102 ti5 rfl rfl rfl (by omega) (by omega) ?_; clear f a; intro a f
                  refine s_storeB (C' := (idsE.of (idPart b ((readN b).2.1 + 32 * i) (k + 1))).toArray) f (g_none rfl) ti5 rfl rfl rfl (fun u hu => by rcases List.mem_singleton.1 (show u ∈ [_] from hu) with rfl; rfl) hbx (by rw [List.size_toArray, idsE.len]; show _ ≤ 32; omega) (idPart_step _ _ _ (by omega)) ?_; intro w33 hg34 hb35
                  replace hw := hw.gr' hg34 (by intro b e; injection e with e; subst e; exact hs30)
                  replace hE := hE.gr hg34 (by intro b e; injection e with e; subst e; exact hlo27)
                  clear hg34
                  clear hbx
                  refine wpList_nil ?_
                  refine blk_n ?_
                  refine then_n ?_
                  refine wp_region_lit ?_
                  refine s_move f (g_none rfl) rfl rfl ?_; clear f a; intro a f
                  refine s_bin f (g_none rfl) rfl rfl rfl (arith_add (r := ((k + 1 : Nat) : Int)) (wrap_i64 (by omega) (by omega))) ?_; clear f a; intro a f
                  refine s_assign f (g_none rfl) rfl rfl ?_; clear f a; intro a f
                  refine wpList_nil ?_
                  refine then_n ?_
                  refine ⟨(k + 1), ?_, ?_⟩
                  · skip
                    exact ⟨(Frm.pick f (Frm.pick f (Frm.pick f (Frm.pick f (Frm.pick f (Frm.pick f (Frm.pick f (Frm.pick f (Frm.pick f (Frm.pick f (Frm.pick f (Frm.pick f f.nil rfl) rfl) rfl) rfl) rfl) rfl) rfl) rfl) rfl) rfl) rfl) rfl), hE, hw, hb35, hs30, (by omega)⟩
                  · show 32 - (k + 1) < 32 - k; omega
                · skip
                  have hb36 : (decide (((k : Nat) : Int) < 32)) = false := decide_eq_false hc31
                  rw [hb36] at f
                  refine c_false f rfl ?_
                  refine wp_exit ?_
                  refine then_e ?_
                  refine then_e ?_
                  refine blk_e ?_
                  refine then_n ?_
                  refine wp_region_lit ?_
                  obtain rfl : k = 32 := by omega
                  refine s_move f (g_none rfl) rfl rfl ?_; clear f a; intro a f
                  refine s_loadA (cs := ((idsE.of (idPart b ((readN b).2.1 + 32 * i) 32)).toArray).toList) f (g_none rfl) rfl ag102 ti102 rfl (by simp [idsE, ID32.cells, ID32.len]) (hbx.cells (by simp)) ?_; clear f a; intro a f
                  refine t_lit (E := idsE) (l := [idPart b ((readN b).2.1 + 32 * i) 32]) (B := w.heap.size) f (g_none rfl) rfl Try.underlying83 ti102 rfl (pt1 f rfl) (by decide) (fill_lit [.agg ((idsE.of (idPart b ((readN b).2.1 + 32 * i) 32)).toArray)] rfl rfl (by simp [Value.cells]; exact idsE.len _)) rfl rfl (hE.size) ?_; clear f a; intro a w42 p37 c38 f hx40 ho39 hn41
                  have hs43 : ∀ b, sblk p37 = some b → sblk pw ≠ some b := fun b e1 e2 => by have h1 := hn41 _ e1; have h2 := (hw.lt e2).2; omega
                  have hs44 : sblk p37 ≠ some b22 := fun e => by have h1 := hn41 _ e; have h2 := hbx.lt; omega
                  replace hw := hw.ext hx40
                  replace hbx := hbx.ext hx40
                  replace hE := hE.tr hx40
                  clear hx40
                  clear hn41
                  refine t_append (E := idsE) (l := rdIDs b (readN b).2.1 i) (m := [idPart b ((readN b).2.1 + 32 * i) 32]) (lm := rdIDs b (readN b).2.1 (i + 1)) (B := w.heap.size) f (g_none rfl) rfl Try.underlying83 ti102 rfl rfl rfl hw (ho39.rd) (by simp only [List.length_cons, List.length_nil]; omega) (by simp only [List.length_cons, List.length_nil]; omega) (hE.size) (rdIDs_step _ _ _) ?_; clear f a; intro a w50 p45 c46 f ho47 hg48 hn49
                  have hs51 : sblk p45 ≠ some b22 := fun e => (hn49 _ e).elim (fun h1 => (absurd h1 hs30)) (fun h1 => by have h2 := hbx.lt; omega)
                  have hs52 : ∀ b, sblk p45 = some b → sblk p37 ≠ some b := fun b e1 e2 => (hn49 _ e1).elim (fun h1 => (by have h3 := hs43; first | exact h3 b h1 e2 | exact h3 b e2 h1)) (fun h1 => by have h2 := (ho39.lt e2).2; omega)
                  replace hbx := hbx.gr' hg48 (by exact hs30)
                  replace ho39 := ho39.gr' hg48 (by intro b e e2; first | exact hs43 b e e2 | exact hs43 b e2 e)
                  replace hE := hE.gr hg48 (fun b e => (hw.lt e).1)
                  clear hg48
                  clear hw
                  clear hn49
                  refine s_assign f (g_none rfl) rfl rfl ?_; clear f a; intro a f
                  refine wpList_nil ?_
                  refine blk_n ?_
                  refine then_n ?_
                  refine wp_region_lit ?_
                  refine s_move f (g_none rfl) rfl rfl ?_; clear f a; intro a f
                  refine s_bin f (g_none rfl) rfl rfl rfl (arith_add (r := ((i + 1 : Nat) : Int)) (wrap_i64 (by omega) (by omega))) ?_; clear f a; intro a f
                  refine s_assign f (g_none rfl) rfl rfl ?_; clear f a; intro a f
                  refine wpList_nil ?_
                  refine then_n ?_
                  refine ⟨(i + 1, p45, c46), ?_, ?_⟩
                  · skip
                    exact ⟨(Frm.pick f (Frm.pick f (Frm.pick f (Frm.pick f (Frm.pick f (Frm.pick f (Frm.pick f (Frm.pick f (Frm.pick f (Frm.pick f f.nil rfl) rfl) rfl) rfl) rfl) rfl) rfl) rfl) rfl) rfl), hE, ho47, (by omega)⟩
                  · show (readN b).1 - (i + 1) < (readN b).1 - i; omega
            · skip
              have hb53 : (decide (((i : Nat) : Int) < (((readN b).1 : Nat) : Int))) = false := decide_eq_false hc20
              rw [hb53] at f
              refine c_false f rfl ?_
              refine wp_exit ?_
              refine then_e ?_
              refine then_e ?_
              refine blk_e ?_
              refine then_n ?_
              refine wp_seq ?_
              refine reg_seq ?_
              refine s_move f (g_none rfl) rfl rfl ?_; clear f a; intro a f
              refine s_call f (g_none rfl) rfl Try.func60 rfl rfl (ev1 f rfl) (rrising_calls (p := pw) (l := rdIDs b (readN b).2.1 i) (c := cw) (w := _) (hr0 := (hw.rd))) ?_
              rintro _ w54 ⟨rfl, hx55⟩; refine ⟨_, rfl, ?_⟩; clear f a; intro a f
              replace hw := hw.ext hx55
              replace hE := hE.tr hx55
              clear hx55
              refine s_not f (g_none rfl) rfl rfl ?_; clear f a; intro a f
              rw [← decide_not] at f
              refine nil_then ?_
              by_cases hc56 : ¬ (RisingP (rdIDs b (readN b).2.1 i))
              · skip
                have hb57 : (decide (¬ (RisingP (rdIDs b (readN b).2.1 i)))) = true := decide_eq_true hc56
                rw [hb57] at f
                have hri := hc56
                refine c_true f rfl ?_
                refine reg_seq ?_
                refine s_assign f (g_none rfl) rfl rfl ?_; clear f a; intro a f
                refine s_assign f (g_none rfl) rfl rfl ?_; clear f a; intro a f
                refine s_assign f (g_none rfl) rfl rfl ?_; clear f a; intro a f
                refine nil_then ?_
                refine wp_ret ?_
                refine then_r ?_
                refine retG (vs := [.slice none 0 0, .int .i64 (0), .int .i64 (12)]) f rfl ⟨rfl, rfl, rfl, trivial⟩ ?_
                have hp := partL_good (b := b) (k := 32) (most := m) (by omega) (by omega)
                have hf := part_fits (b := b) (k := 32) (by omega)
                have hu := rdIDs_all (s := b) (o := (readN b).2.1) (n := (readN b).1) (by omega)
                have hu2 : unflat (partL b m 32).1 = rdIDs b (readN b).2.1 i := by rw [hp, show i = (readN b).1 by omega]; exact hu.symm
                have hg := readI_no (b := b) (most := m) (by rw [hp]) (by rw [hu2]; exact hri)
                try rw [hu2] at hg
                try rw [hp] at hg
                have hl58 : [] = (readI b m).1 := by rw [hg]
                exact ⟨none, 0, congrArg Ending.returned (tup3 (congrArg (fun l : List ID32 => Value.slice none l.length 0) hl58) (congrArg (Value.int .i64) (by rw [hg] <;> rfl)) (congrArg (Value.int .i64) (by rw [hg] <;> rfl))), hE, (hl58 ▸ OwL.nil)⟩
              · skip
                have hb59 : (decide (¬ (RisingP (rdIDs b (readN b).2.1 i)))) = false := decide_eq_false hc56
                rw [hb59] at f
                have hri := Classical.not_not.1 hc56
                refine c_false f rfl ?_
                refine wp_skip ?_
                refine then_n ?_
                refine reg_seq ?_
                refine s_move f (g_none rfl) rfl rfl ?_; clear f a; intro a f
                refine s_move f (g_none rfl) rfl rfl ?_; clear f a; intro a f
                refine s_move f (g_none rfl) rfl rfl ?_; clear f a; intro a f
                refine s_conv (r := (((readN b).1 : Nat) : Int)) f (g_none rfl) rfl Try.underlying31 Try.underlying3 rfl (nat_i64 ((readN b).1) (by omega)) ?_; clear f a; intro a f
                refine s_bin f (g_none rfl) rfl rfl rfl (arith_mul (r := ((32 * ((readN b).1) : Nat) : Int)) (wrap_i64 (by omega) (by omega))) ?_; clear f a; intro a f
                refine s_bin f (g_none rfl) rfl rfl rfl (arith_add (r := (((readN b).2.1 + (32 * ((readN b).1)) : Nat) : Int)) (wrap_i64 (by omega) (by omega))) ?_; clear f a; intro a f
                refine s_assign f (g_none rfl) rfl rfl ?_; clear f a; intro a f
                refine s_assign f (g_none rfl) rfl rfl ?_; clear f a; intro a f
                refine s_assign f (g_none rfl) rfl rfl ?_; clear f a; intro a f
                refine nil_then ?_
                refine wp_ret ?_
                refine retG (vs := [.slice pw (rdIDs b (readN b).2.1 i).length cw, .int .i64 (((readN b).2.1 + (32 * ((readN b).1)) : Nat) : Int), .int .i64 (0)]) f rfl ⟨rfl, rfl, rfl, trivial⟩ ?_
                have hp := partL_good (b := b) (k := 32) (most := m) (by omega) (by omega)
                have hf := part_fits (b := b) (k := 32) (by omega)
                have hu := rdIDs_all (s := b) (o := (readN b).2.1) (n := (readN b).1) (by omega)
                have hu2 : unflat (partL b m 32).1 = rdIDs b (readN b).2.1 i := by rw [hp, show i = (readN b).1 by omega]; exact hu.symm
                have hg := readI_ok (b := b) (most := m) (by rw [hp]) (by rw [hu2]; exact hri)
                try rw [hu2] at hg
                try rw [hp] at hg
                have hl60 : rdIDs b (readN b).2.1 i = (readI b m).1 := by rw [hg]
                exact ⟨pw, cw, congrArg Ending.returned (tup3 (congrArg (fun l : List ID32 => Value.slice pw l.length cw) hl60) (congrArg (Value.int .i64) (by rw [hg] <;> rfl)) (congrArg (Value.int .i64) (by rw [hg] <;> rfl))), hE, (hl60 ▸ hw)⟩

end Go.Proofs.Ytklfgpdfongaeaa
