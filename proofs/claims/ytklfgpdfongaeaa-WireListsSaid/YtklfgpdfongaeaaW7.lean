/- Walks. -/
import Derived.Test.YtklfgpdfongaeaaW6
import Derived.Test.YtklfgpdfongaeaaWireSpec3
import Derived.Test.YtklfgpdfongaeaaLibK
namespace Go.Proofs.Ytklfgpdfongaeaa
open Go Go.RowKit
set_option linter.unusedSimpArgs false
set_option linter.unusedVariables false

set_option maxRecDepth 100000 in
theorem wids_calls (p : Option Addr) (l : List ID32) (c : Nat) (w : World) (hr0 : RdL idsE w p c l) :
    Calls Try.prog 59 #[.slice p l.length c] w (fun e w' => ∃ q : Option Addr, ∃ d : Nat, e = .returned (.tuple #[.slice q ((idsOf l).1).length d, .int .i64 (((idsOf l).2 : Nat) : Int)]) ∧ Ext w w' ∧ OwL bytesE w' w.heap.size 5 q d ((idsOf l).1)) := by
  have hnl := numBytes_len l.length
  have hle0 := hr0.le
  refine enter (n := 28) (l := [(0, .slice p l.length c)]) Try.func59 rfl rfl rfl rfl ?_; intro a f
  refine reg_seq ?_
  refine s_assign f (g_none rfl) rfl rfl ?_; clear f a; intro a f
  refine s_assign f (g_none rfl) rfl rfl ?_; clear f a; intro a f
  refine nil_then ?_
  refine wp_seq ?_
  refine reg_seq ?_
  refine s_move f (g_none rfl) rfl rfl ?_; clear f a; intro a f
  refine t_len f (g_none rfl) rfl rfl Try.underlying83 rfl ?_; clear f a; intro a f
  refine s_bin f (g_none rfl) rfl rfl rfl rfl ?_; clear f a; intro a f
  refine nil_then ?_
  by_cases hc1 : 60 < ((l.length : Nat) : Int)
  · skip
    have hb2 : (decide (60 < ((l.length : Nat) : Int))) = true := decide_eq_true hc1
    rw [hb2] at f
    refine c_true f rfl ?_
    refine reg_seq ?_
    refine s_assign f (g_none rfl) rfl rfl ?_; clear f a; intro a f
    refine s_assign f (g_none rfl) rfl rfl ?_; clear f a; intro a f
    refine nil_then ?_
    refine wp_ret ?_
    refine then_r ?_
    refine retG (vs := [.slice none 0 0, .int .i64 (4)]) f rfl ⟨rfl, rfl, trivial⟩ ?_
    have hg := idsOf_many (l := l) (by omega)
    have hl3 : [] = (idsOf l).1 := by rw [hg]
    exact ⟨none, 0, congrArg Ending.returned (tup2 (congrArg (fun l : List UInt8 => Value.slice none l.length 0) hl3) (congrArg (Value.int .i64) (by rw [hg] <;> rfl))), Ext.rfl', (hl3 ▸ OwL.nil)⟩
  · skip
    have hb4 : (decide (60 < ((l.length : Nat) : Int))) = false := decide_eq_false hc1
    rw [hb4] at f
    have hl60 : l.length ≤ 60 := by omega
    replace hnl := hnl (by omega)
    refine c_false f rfl ?_
    refine wp_skip ?_
    refine then_n ?_
    refine wp_seq ?_
    refine reg_seq ?_
    refine s_move f (g_none rfl) rfl rfl ?_; clear f a; intro a f
    refine s_call f (g_none rfl) rfl Try.func115 rfl rfl (ev1 f rfl) (rising_calls (p := p) (l := l) (c := c) (w := _) (hr0 := hr0)) ?_
    rintro _ w5 ⟨rfl, hx6⟩; refine ⟨_, rfl, ?_⟩; clear f a; intro a f
    have hE := hx6; clear hx6
    refine s_not f (g_none rfl) rfl rfl ?_; clear f a; intro a f
    rw [← decide_not] at f
    refine nil_then ?_
    by_cases hc7 : ¬ (RisingP l)
    · skip
      have hb8 : (decide (¬ (RisingP l))) = true := decide_eq_true hc7
      rw [hb8] at f
      have hri := hc7
      refine c_true f rfl ?_
      refine reg_seq ?_
      refine s_assign f (g_none rfl) rfl rfl ?_; clear f a; intro a f
      refine s_assign f (g_none rfl) rfl rfl ?_; clear f a; intro a f
      refine nil_then ?_
      refine wp_ret ?_
      refine then_r ?_
      refine retG (vs := [.slice none 0 0, .int .i64 (32)]) f rfl ⟨rfl, rfl, trivial⟩ ?_
      have hg := idsOf_no (l := l) (by omega) hri
      have hl9 : [] = (idsOf l).1 := by rw [hg]
      exact ⟨none, 0, congrArg Ending.returned (tup2 (congrArg (fun l : List UInt8 => Value.slice none l.length 0) hl9) (congrArg (Value.int .i64) (by rw [hg] <;> rfl))), hE, (hl9 ▸ OwL.nil)⟩
    · skip
      have hb10 : (decide (¬ (RisingP l))) = false := decide_eq_false hc7
      rw [hb10] at f
      have hri := Classical.not_not.1 hc7
      refine c_false f rfl ?_
      refine wp_skip ?_
      refine then_n ?_
      refine reg_seq ?_
      refine s_move f (g_none rfl) rfl rfl ?_; clear f a; intro a f
      refine t_len f (g_none rfl) rfl rfl Try.underlying83 rfl ?_; clear f a; intro a f
      refine s_conv (r := ((l.length : Nat) : Int)) f (g_none rfl) rfl Try.underlying3 Try.underlying31 rfl (nat_u64 l.length (by omega)) ?_; clear f a; intro a f
      refine s_call f (g_none rfl) rfl Try.func31 rfl rfl (ev1 f rfl) (number_calls (n := l.length) (hn := (by omega)) (w := _) ) ?_
      rintro _ w11 ⟨p12, c13, rfl, hx14, ho15⟩; refine ⟨_, rfl, ?_⟩; clear f a; intro a f
      replace ho15 := ho15.mono (hE.size)
      replace hE := hE.tr hx14
      clear hx14
      refine s_assign f (g_none rfl) rfl rfl ?_; clear f a; intro a f
      refine nil_then ?_
      refine wp_seq ?_
      refine reg_seq ?_
      refine s_move f (g_none rfl) rfl rfl ?_; clear f a; intro a f
      refine t_len f (g_none rfl) rfl rfl Try.underlying83 rfl ?_; clear f a; intro a f
      refine s_move f (g_none rfl) rfl rfl ?_; clear f a; intro a f
      refine nil_then ?_
      refine wp_block ?_
      refine loop_ghost (α := Nat × Option Addr × Nat) (fun gg a wr => let ⟨i, pw, cw⟩ := gg; Frm 28 [(0, .slice p l.length c), (2, .slice none 0 0), (3, .int .i64 (0)), (4, .slice pw (numBytes l.length ++ flat (l.take i)).length cw), (17, .slice p l.length c), (18, .int .i64 ((l.length : Nat) : Int)), (19, .int .i64 ((i : Nat) : Int))] a ∧ Ext w wr ∧ OwL bytesE wr w.heap.size 5 pw cw (numBytes l.length ++ flat (l.take i)) ∧ i ≤ l.length) (fun gg => let ⟨i, pw, cw⟩ := gg; l.length - i) (0, p12, c13) ?_ ?_
      · skip
        exact ⟨(Frm.pick f (Frm.pick f (Frm.pick f (Frm.pick f (Frm.pick f (Frm.pick f (Frm.pick f f.nil rfl) rfl) rfl) (look_eq rfl (by rw [← flat_zero]))) rfl) rfl) rfl), hE, (by rw [← flat_zero]; exact ho15), (by omega)⟩
      · skip
        clear f a
        clear ho15
        clear hE
        rintro ⟨i, pw, cw⟩ a wr ⟨f, hE, hw, hi⟩
        have hfl := flat_len (l.take i)
        rw [List.length_take] at hfl
        refine reg_seq ?_
        refine s_bin f (g_none rfl) rfl rfl rfl rfl ?_; clear f a; intro a f
        refine nil_then ?_
        refine wp_seq ?_
        by_cases hc17 : ((i : Nat) : Int) < ((l.length : Nat) : Int)
        · skip
          have hb18 : (decide (((i : Nat) : Int) < ((l.length : Nat) : Int))) = true := decide_eq_true hc17
          rw [hb18] at f
          refine c_true f rfl ?_
          refine wp_skip ?_
          refine then_n ?_
          refine wp_seq ?_
          refine wp_block ?_
          refine reg_seq ?_
          refine t_indexAddr (j := i) (E := idsE) f (g_none rfl) rfl Try.underlying83 ti102 rfl (hr0.ext hE) rfl rfl rfl (by omega) ?_; clear f a; intro a f
          refine t_loadA (j := i) (e := l.getD i ID32.zero) (E := idsE) f (g_none rfl) rfl ag102 ti102 rfl (hr0.ext hE) rfl rfl (getD_some (by omega)) ?_; clear f a; intro a f
          refine s_alloc f (g_none rfl) rfl ti102 ?_; clear f a; intro a w23 b19 f hx21 hb20 hl22
          change Bx w23 b19 #[.int .u8 (0), .int .u8 (0), .int .u8 (0), .int .u8 (0), .int .u8 (0), .int .u8 (0), .int .u8 (0), .int .u8 (0), .int .u8 (0), .int .u8 (0), .int .u8 (0), .int .u8 (0), .int .u8 (0), .int .u8 (0), .int .u8 (0), .int .u8 (0), .int .u8 (0), .int .u8 (0), .int .u8 (0), .int .u8 (0), .int .u8 (0), .int .u8 (0), .int .u8 (0), .int .u8 (0), .int .u8 (0), .int .u8 (0), .int .u8 (0), .int .u8 (0), .int .u8 (0), .int .u8 (0), .int .u8 (0), .int .u8 (0)] 102 at hb20
          have hlo24 : w.heap.size ≤ b19 := Nat.le_trans hE.size hl22
          have hs25 : sblk pw ≠ some b19 := fun e => by have h2 := (hw.lt e).2; omega
          clear hl22
          replace hw := hw.ext hx21
          replace hE := hE.tr hx21
          clear hx21
          refine s_storeB (C' := (idsE.of (l.getD i ID32.zero)).toArray) f (g_none rfl) ti102 rfl rfl (idsE.len _) (fun u hu => idsE.one _ u hu) hb20 (by simp) (spl_all _ _ (idsE.len _).symm) ?_; intro w26 hg27 hb28
          replace hw := hw.gr' hg27 (by intro b e; injection e with e; subst e; exact hs25)
          replace hE := hE.gr hg27 (by intro b e; injection e with e; subst e; exact hlo24)
          clear hg27
          clear hb20
          refine nil_then ?_
          refine wp_region_lit ?_
          refine s_move f (g_none rfl) rfl rfl ?_; clear f a; intro a f
          refine t_cutA (l.getD i ID32.zero) f (g_none rfl) rfl Try.underlying102 ti5 rfl ?_; clear f a; intro a f
          have hr29 := Bx.id hb28
          have hxl := (l.getD i ID32.zero).len
          refine t_append (E := bytesE) (l := numBytes l.length ++ flat (l.take i)) (m := (l.getD i ID32.zero).bytes) (lm := numBytes l.length ++ flat (l.take (i + 1))) (B := w.heap.size) f (g_none rfl) rfl Try.underlying32 ti5 rfl rfl rfl hw hr29 (by rw [List.length_append]; omega) (by rw [List.length_append]; omega) (hE.size) (flat_step _ (by omega)) ?_; clear f a; intro a w35 p30 c31 f ho32 hg33 hn34
          have hs36 : sblk p30 ≠ some b19 := fun e => (hn34 _ e).elim (fun h1 => (absurd h1 hs25)) (fun h1 => by have h2 := hb28.lt; omega)
          replace hb28 := hb28.gr' hg33 (by exact hs25)
          clear hr29
          replace hE := hE.gr hg33 (fun b e => (hw.lt e).1)
          clear hg33
          clear hw
          clear hn34
          refine s_assign f (g_none rfl) rfl rfl ?_; clear f a; intro a f
          refine wpList_nil ?_
          refine blk_n ?_
          refine then_n ?_
          refine wp_region_lit ?_
          refine s_bin f (g_none rfl) rfl rfl rfl (arith_add (r := ((i + 1 : Nat) : Int)) (wrap_i64 (by omega) (by omega))) ?_; clear f a; intro a f
          refine s_move f (g_none rfl) rfl rfl ?_; clear f a; intro a f
          refine wpList_nil ?_
          refine then_n ?_
          refine ⟨(i + 1, p30, c31), ?_, ?_⟩
          · skip
            exact ⟨(Frm.pick f (Frm.pick f (Frm.pick f (Frm.pick f (Frm.pick f (Frm.pick f (Frm.pick f f.nil rfl) rfl) rfl) rfl) rfl) rfl) rfl), hE, ho32, (by omega)⟩
          · show l.length - (i + 1) < l.length - i; omega
        · skip
          have hb38 : (decide (((i : Nat) : Int) < ((l.length : Nat) : Int))) = false := decide_eq_false hc17
          rw [hb38] at f
          refine c_false f rfl ?_
          refine wp_exit ?_
          refine then_e ?_
          refine then_e ?_
          refine blk_e ?_
          refine then_n ?_
          refine reg_seq ?_
          refine s_move f (g_none rfl) rfl rfl ?_; clear f a; intro a f
          refine s_assign f (g_none rfl) rfl rfl ?_; clear f a; intro a f
          refine s_assign f (g_none rfl) rfl rfl ?_; clear f a; intro a f
          refine nil_then ?_
          refine wp_ret ?_
          refine retG (vs := [.slice pw (numBytes l.length ++ flat (l.take i)).length cw, .int .i64 (0)]) f rfl ⟨rfl, rfl, trivial⟩ ?_
          have hg := idsOf_ok (l := l) (by omega) hri
          have hl39 : numBytes l.length ++ flat (l.take i) = (idsOf l).1 := by rw [hg, show i = l.length by omega, List.take_length]
          exact ⟨pw, cw, congrArg Ending.returned (tup2 (congrArg (fun l : List UInt8 => Value.slice pw l.length cw) hl39) (congrArg (Value.int .i64) (by rw [hg] <;> rfl))), hE, (hl39 ▸ hw)⟩

set_option maxRecDepth 100000 in
theorem rids_calls (p : Option Addr) (b : List UInt8) (c : Nat) (m : Int) (h1 : -9223372036854775808 ≤ m) (h2 : m ≤ 9223372036854775807) (hb : b.length ≤ 1000000) (w : World) (hr0 : RdL bytesE w p c b) :
    Calls Try.prog 61 #[.slice p b.length c, .int .i64 m] w (fun e w' => ∃ q : Option Addr, ∃ d : Nat, e = .returned (.tuple #[.slice q ((readI b m).1).length d, .int .i64 (((readI b m).2.1 : Nat) : Int), .int .i64 (((readI b m).2.2 : Nat) : Int)]) ∧ Ext w w' ∧ OwL idsE w' w.heap.size 102 q d ((readI b m).1)) := by
  have hpl := partL_len b m 32
  have hrep : (List.replicate ((partL b m 32).1.length / 32) ID32.zero).length = (partL b m 32).1.length / 32 := List.length_replicate
  have hle0 := hr0.le
  refine enter (n := 45) (l := [(0, .slice p b.length c), (1, .int .i64 m)]) Try.func61 rfl rfl rfl rfl ?_; intro a f
  refine reg_seq ?_
  refine s_assign f (g_none rfl) rfl rfl ?_; clear f a; intro a f
  refine s_assign f (g_none rfl) rfl rfl ?_; clear f a; intro a f
  refine s_assign f (g_none rfl) rfl rfl ?_; clear f a; intro a f
  refine nil_then ?_
  refine reg_seq ?_
  refine s_move f (g_none rfl) rfl rfl ?_; clear f a; intro a f
  refine s_move f (g_none rfl) rfl rfl ?_; clear f a; intro a f
  refine s_call f (g_none rfl) rfl Try.func107 rfl rfl (ev3 f rfl rfl rfl) (part_calls (p := p) (b := b) (c := c) (m := m) (k := 32) (h1 := (by omega)) (h2 := (by omega)) (hk1 := (by omega)) (hk2 := (by omega)) (w := _) (hr0 := hr0)) ?_
  rintro _ _ ⟨q1, d2, rfl, rfl, ho4⟩; refine ⟨_, rfl, ?_⟩; clear f a; intro a f
  have hr5 := ho4 _ hr0; clear ho4
  refine s_move f (g_none rfl) rfl rfl ?_; clear f a; intro a f
  refine s_extract (v := .slice q1 ((partL b m 32).1).length d2) f (g_none rfl) rfl rfl rfl ?_; clear f a; intro a f
  refine s_extract (v := .int .i64 (((partL b m 32).2.1 : Nat) : Int)) f (g_none rfl) rfl rfl rfl ?_; clear f a; intro a f
  refine s_extract (v := .int .i64 (((partL b m 32).2.2 : Nat) : Int)) f (g_none rfl) rfl rfl rfl ?_; clear f a; intro a f
  refine s_assign f (g_none rfl) rfl rfl ?_; clear f a; intro a f
  refine s_assign f (g_none rfl) rfl rfl ?_; clear f a; intro a f
  refine s_assign f (g_none rfl) rfl rfl ?_; clear f a; intro a f
  refine nil_then ?_
  refine wp_seq ?_
  refine reg_seq ?_
  refine s_move f (g_none rfl) rfl rfl ?_; clear f a; intro a f
  refine s_bin (v := .bool (decide ((((partL b m 32).2.2 : Nat) : Int) ≠ 0))) f (g_none rfl) rfl rfl rfl arith_neq ?_; clear f a; intro a f
  refine nil_then ?_
  by_cases hc6 : (((partL b m 32).2.2 : Nat) : Int) ≠ 0
  · skip
    have hb7 : (decide ((((partL b m 32).2.2 : Nat) : Int) ≠ 0)) = true := decide_eq_true hc6
    rw [hb7] at f
    refine c_true f rfl ?_
    refine reg_seq ?_
    refine s_move f (g_none rfl) rfl rfl ?_; clear f a; intro a f
    refine s_assign f (g_none rfl) rfl rfl ?_; clear f a; intro a f
    refine s_assign f (g_none rfl) rfl rfl ?_; clear f a; intro a f
    refine s_assign f (g_none rfl) rfl rfl ?_; clear f a; intro a f
    refine nil_then ?_
    refine wp_ret ?_
    refine then_r ?_
    refine retG (vs := [.slice none 0 0, .int .i64 (0), .int .i64 (((partL b m 32).2.2 : Nat) : Int)]) f rfl ⟨rfl, rfl, rfl, trivial⟩ ?_
    have hg := readI_bad (b := b) (most := m) (by omega)
    have hl8 : [] = (readI b m).1 := by rw [hg]
    exact ⟨none, 0, congrArg Ending.returned (tup3 (congrArg (fun l : List ID32 => Value.slice none l.length 0) hl8) (congrArg (Value.int .i64) (by rw [hg] <;> rfl)) (congrArg (Value.int .i64) (by rw [hg] <;> rfl))), Ext.rfl', (hl8 ▸ OwL.nil)⟩
  · skip
    have hb9 : (decide ((((partL b m 32).2.2 : Nat) : Int) ≠ 0)) = false := decide_eq_false hc6
    rw [hb9] at f
    refine c_false f rfl ?_
    refine wp_skip ?_
    refine then_n ?_
    refine reg_seq ?_
    refine s_move f (g_none rfl) rfl rfl ?_; clear f a; intro a f
    refine t_len f (g_none rfl) rfl rfl Try.underlying32 rfl ?_; clear f a; intro a f
    refine s_quo (r := (((partL b m 32).1.length / 32 : Nat) : Int)) f (g_none rfl) rfl rfl rfl (by omega) (quo_i64 (x := (partL b m 32).1.length) (y := 32) (by omega) (by decide)) ?_; clear f a; intro a f
    refine t_make (m := (partL b m 32).1.length / 32) (E := idsE) (l := List.replicate ((partL b m 32).1.length / 32) ID32.zero) (B := w.heap.size) f (g_none rfl) rfl Try.underlying83 ti102 rfl rfl rfl rfl (by omega) (by omega) (Nat.le_refl _) (by simp) (made_ids _ rfl _) ?_; clear f a; intro a w15 p10 c11 f hx13 ho12 hn14
    have hE := hx13; clear hx13
    clear hn14
    refine s_assign f (g_none rfl) rfl rfl ?_; clear f a; intro a f
    refine nil_then ?_
    refine wp_seq ?_
    refine reg_seq ?_
    refine s_move f (g_none rfl) rfl rfl ?_; clear f a; intro a f
    refine t_len f (g_none rfl) rfl rfl Try.underlying83 rfl ?_; clear f a; intro a f
    refine s_move f (g_none rfl) rfl rfl ?_; clear f a; intro a f
    refine nil_then ?_
    refine wp_block ?_
    refine loop_ghost (α := Nat × Option Addr × Nat) (fun gg a wr => let ⟨i, pr, cr⟩ := gg; Frm 45 [(0, .slice p b.length c), (1, .int .i64 m), (4, .slice none 0 0), (5, .int .i64 (0)), (6, .int .i64 (0)), (7, .slice pr ((partL b m 32).1.drop (32 * i)).length cr), (8, .int .i64 (((partL b m 32).2.1 : Nat) : Int)), (9, .int .i64 (((partL b m 32).2.2 : Nat) : Int)), (10, .slice p10 (fillI (partL b m 32).1 i).length c11), (27, .int .i64 (((List.replicate ((partL b m 32).1.length / 32) ID32.zero).length : Nat) : Int)), (28, .int .i64 ((i : Nat) : Int))] a ∧ Ext w wr ∧ OwL idsE wr w.heap.size 102 p10 c11 (fillI (partL b m 32).1 i) ∧ i ≤ (partL b m 32).1.length / 32 ∧ RdL bytesE w pr cr ((partL b m 32).1.drop (32 * i))) (fun gg => let ⟨i, pr, cr⟩ := gg; (partL b m 32).1.length / 32 - i) (0, q1, d2) ?_ ?_
    · skip
      exact ⟨(Frm.pick f (Frm.pick f (Frm.pick f (Frm.pick f (Frm.pick f (Frm.pick f (Frm.pick f (Frm.pick f (Frm.pick f (Frm.pick f (Frm.pick f f.nil rfl) rfl) (look_eq rfl (by rw [fillI_zero]))) rfl) rfl) (look_eq rfl (by rw [Nat.mul_zero, List.drop_zero]))) rfl) rfl) rfl) rfl) rfl), hE, (by rw [← fillI_zero]; exact ho12), (by omega), (by rw [Nat.mul_zero, List.drop_zero]; exact hr5)⟩
    · skip
      clear f a
      clear ho12
      clear hE
      rintro ⟨i, pr, cr⟩ a wr ⟨f, hE, hw, hi, hrs⟩
      have hfl := fillI_len (partL b m 32).1 i
      have hdl : ((partL b m 32).1.drop (32 * i)).length = (partL b m 32).1.length - 32 * i := List.length_drop
      refine reg_seq ?_
      refine s_bin f (g_none rfl) rfl rfl rfl rfl ?_; clear f a; intro a f
      refine nil_then ?_
      refine wp_seq ?_
      by_cases hc17 : ((i : Nat) : Int) < (((List.replicate ((partL b m 32).1.length / 32) ID32.zero).length : Nat) : Int)
      · skip
        have hb18 : (decide (((i : Nat) : Int) < (((List.replicate ((partL b m 32).1.length / 32) ID32.zero).length : Nat) : Int))) = true := decide_eq_true hc17
        rw [hb18] at f
        refine c_true f rfl ?_
        refine wp_skip ?_
        refine then_n ?_
        refine wp_seq ?_
        refine wp_block ?_
        refine reg_seq ?_
        refine s_move f (g_none rfl) rfl rfl ?_; clear f a; intro a f
        refine s_assign f (g_none rfl) rfl rfl ?_; clear f a; intro a f
        refine nil_then ?_
        refine wp_region_lit ?_
        refine s_move f (g_none rfl) rfl rfl ?_; clear f a; intro a f
        refine s_move f (g_none rfl) rfl rfl ?_; clear f a; intro a f
        refine s_move f (g_none rfl) rfl rfl ?_; clear f a; intro a f
        refine t_indexAddr (j := i) (E := idsE) f (g_none rfl) rfl Try.underlying83 ti102 rfl (hw.rd) rfl rfl rfl (by omega) ?_; clear f a; intro a f
        refine t_cutE f (g_none rfl) rfl Try.underlying102 ti5 rfl ?_; clear f a; intro a f
        refine s_move f (g_none rfl) rfl rfl ?_; clear f a; intro a f
        refine t_copyID (idAt (partL b m 32).1 i) (l' := fillI (partL b m 32).1 (i + 1)) f (g_none rfl) rfl rfl Try.underlying32 ti5 rfl rfl (hrs.ext hE) (by omega) (idAt_bytes2 (by omega)) hw (by omega) (fillI_step _ _) ?_; clear f a; intro a w22 f hg19 ho20 hl21
        replace hE := hE.gr hg19 (fun b e => (hw.lt e).1)
        clear hg19
        clear hw
        rw [← hl21] at f
        clear hl21
        refine t_cut (i := 32) (j := ((partL b m 32).1.drop (32 * i)).length) (E := bytesE) (l' := (partL b m 32).1.drop (32 * (i + 1))) f (g_none rfl) rfl Try.underlying32 ti5 rfl (hrs.ext hE) (.inr ⟨_, _, rfl, rfl⟩) (.inl ⟨rfl, rfl⟩) (by omega) (by omega) ((cut_lo _ _).trans (by rw [List.drop_drop, show 32 * i + 32 = 32 * (i + 1) by omega])) ?_; clear f a; intro a p23 c24 f hs25 hq26
        have hr27 := hs25 _ hrs
        refine s_assign f (g_none rfl) rfl rfl ?_; clear f a; intro a f
        refine wpList_nil ?_
        refine blk_n ?_
        refine then_n ?_
        refine wp_region_lit ?_
        refine s_bin f (g_none rfl) rfl rfl rfl (arith_add (r := ((i + 1 : Nat) : Int)) (wrap_i64 (by omega) (by omega))) ?_; clear f a; intro a f
        refine s_move f (g_none rfl) rfl rfl ?_; clear f a; intro a f
        refine wpList_nil ?_
        refine then_n ?_
        refine ⟨(i + 1, p23, c24), ?_, ?_⟩
        · skip
          exact ⟨(Frm.pick f (Frm.pick f (Frm.pick f (Frm.pick f (Frm.pick f (Frm.pick f (Frm.pick f (Frm.pick f (Frm.pick f (Frm.pick f (Frm.pick f f.nil rfl) rfl) rfl) rfl) rfl) rfl) rfl) rfl) rfl) rfl) rfl), hE, ho20, (by omega), hr27⟩
        · show (partL b m 32).1.length / 32 - (i + 1) < (partL b m 32).1.length / 32 - i; omega
      · skip
        have hb28 : (decide (((i : Nat) : Int) < (((List.replicate ((partL b m 32).1.length / 32) ID32.zero).length : Nat) : Int))) = false := decide_eq_false hc17
        rw [hb28] at f
        refine c_false f rfl ?_
        refine wp_exit ?_
        refine then_e ?_
        refine then_e ?_
        refine blk_e ?_
        refine then_n ?_
        refine wp_seq ?_
        refine reg_seq ?_
        have hfin : fillI (partL b m 32).1 i = unflat (partL b m 32).1 := fillI_last (by omega)
        rw [hfin] at f hw
        refine s_move f (g_none rfl) rfl rfl ?_; clear f a; intro a f
        refine s_call f (g_none rfl) rfl Try.func115 rfl rfl (ev1 f rfl) (rising_calls (p := p10) (l := unflat (partL b m 32).1) (c := c11) (w := _) (hr0 := (hw.rd))) ?_
        rintro _ w29 ⟨rfl, hx30⟩; refine ⟨_, rfl, ?_⟩; clear f a; intro a f
        replace hw := hw.ext hx30
        replace hE := hE.tr hx30
        clear hx30
        refine s_not f (g_none rfl) rfl rfl ?_; clear f a; intro a f
        rw [← decide_not] at f
        refine nil_then ?_
        by_cases hc31 : ¬ (RisingP (unflat (partL b m 32).1))
        · skip
          have hb32 : (decide (¬ (RisingP (unflat (partL b m 32).1)))) = true := decide_eq_true hc31
          rw [hb32] at f
          have hri := hc31
          refine c_true f rfl ?_
          refine reg_seq ?_
          refine s_assign f (g_none rfl) rfl rfl ?_; clear f a; intro a f
          refine s_assign f (g_none rfl) rfl rfl ?_; clear f a; intro a f
          refine s_assign f (g_none rfl) rfl rfl ?_; clear f a; intro a f
          refine nil_then ?_
          refine wp_ret ?_
          refine then_r ?_
          refine retG (vs := [.slice none 0 0, .int .i64 (0), .int .i64 (12)]) f rfl ⟨rfl, rfl, rfl, trivial⟩ ?_
          have hg := readI_no (b := b) (most := m) (by omega) hri
          have hl33 : [] = (readI b m).1 := by rw [hg]
          exact ⟨none, 0, congrArg Ending.returned (tup3 (congrArg (fun l : List ID32 => Value.slice none l.length 0) hl33) (congrArg (Value.int .i64) (by rw [hg] <;> rfl)) (congrArg (Value.int .i64) (by rw [hg] <;> rfl))), hE, (hl33 ▸ OwL.nil)⟩
        · skip
          have hb34 : (decide (¬ (RisingP (unflat (partL b m 32).1)))) = false := decide_eq_false hc31
          rw [hb34] at f
          have hri := Classical.not_not.1 hc31
          refine c_false f rfl ?_
          refine wp_skip ?_
          refine then_n ?_
          refine reg_seq ?_
          refine s_move f (g_none rfl) rfl rfl ?_; clear f a; intro a f
          refine s_move f (g_none rfl) rfl rfl ?_; clear f a; intro a f
          refine s_assign f (g_none rfl) rfl rfl ?_; clear f a; intro a f
          refine s_assign f (g_none rfl) rfl rfl ?_; clear f a; intro a f
          refine s_assign f (g_none rfl) rfl rfl ?_; clear f a; intro a f
          refine nil_then ?_
          refine wp_ret ?_
          refine retG (vs := [.slice p10 (unflat (partL b m 32).1).length c11, .int .i64 (((partL b m 32).2.1 : Nat) : Int), .int .i64 (0)]) f rfl ⟨rfl, rfl, rfl, trivial⟩ ?_
          have hg := readI_ok (b := b) (most := m) (by omega) hri
          have hl35 : unflat (partL b m 32).1 = (readI b m).1 := by rw [hg]
          exact ⟨p10, c11, congrArg Ending.returned (tup3 (congrArg (fun l : List ID32 => Value.slice p10 l.length c11) hl35) (congrArg (Value.int .i64) (by rw [hg] <;> rfl)) (congrArg (Value.int .i64) (by rw [hg] <;> rfl))), hE, (hl35 ▸ hw)⟩

end Go.Proofs.Ytklfgpdfongaeaa
