/- Walks. -/
import Derived.Test.YtklfgpdfongaeaaW10
namespace Go.Proofs.Ytklfgpdfongaeaa
open Go Go.RowKit
set_option linter.unusedSimpArgs false
set_option linter.unusedVariables false

set_option maxRecDepth 100000 in
theorem wireLists_calls (p : Option Addr) (b : List UInt8) (c : Nat) (q : Option Addr) (l : List ID32) (d : Nat) (m : Int) (h1 : -9223372036854775808 ≤ m) (h2 : m ≤ 9223372036854775807) (w : World) (hr0 : RdL bytesE w p c b) (hr1 : RdL idsE w q d l) :
    Calls Try.prog 10 #[.slice p b.length c, .slice q l.length d, .int .i64 m] w (fun e w' => e = .returned (.bool true) ∧ Ext w w') := by
  have hle0 := hr0.le
  have hle1 := hr1.le
  refine enter (n := 158) (l := [(0, .slice p b.length c), (1, .slice q l.length d), (2, .int .i64 m)]) Try.func10 rfl rfl rfl rfl ?_; intro a f
  refine reg_seq ?_
  refine s_assign f (g_none rfl) rfl rfl ?_; clear f a; intro a f
  refine nil_then ?_
  refine wp_seq ?_
  refine reg_seq ?_
  refine s_move f (g_none rfl) rfl rfl ?_; clear f a; intro a f
  refine t_len f (g_none rfl) rfl rfl Try.underlying32 rfl ?_; clear f a; intro a f
  refine s_bin f (g_none rfl) rfl rfl rfl rfl ?_; clear f a; intro a f
  refine s_move f (g_none rfl) rfl rfl ?_; clear f a; intro a f
  by_cases hc1 : 3000 < ((b.length : Nat) : Int)
  · skip
    have hb2 : (decide (3000 < ((b.length : Nat) : Int))) = true := decide_eq_true hc1
    rw [hb2] at f
    refine s_move f (g_yes f rfl rfl rfl) rfl rfl ?_; clear f a; intro a f
    refine t_len f (g_yes f rfl rfl rfl) rfl rfl Try.underlying32 rfl ?_; clear f a; intro a f
    refine s_bin f (g_yes f rfl rfl rfl) rfl rfl rfl rfl ?_; clear f a; intro a f
    refine s_pick (r := .bool (decide (((b.length : Nat) : Int) ≤ 10000))) f (g_none rfl) rfl rfl rfl rfl rfl ?_; clear f a; intro a f
    refine s_move f (g_none rfl) rfl rfl ?_; clear f a; intro a f
    by_cases hc3 : ((b.length : Nat) : Int) ≤ 10000
    · skip
      have hb4 : (decide (((b.length : Nat) : Int) ≤ 10000)) = true := decide_eq_true hc3
      rw [hb4] at f
      refine s_skip f (g_no f rfl rfl rfl) rfl ?_; clear f a; intro a f
      refine s_skip f (g_no f rfl rfl rfl) rfl ?_; clear f a; intro a f
      refine s_skip f (g_no f rfl rfl rfl) rfl ?_; clear f a; intro a f
      refine s_pick (r := .bool true) f (g_none rfl) rfl rfl rfl rfl rfl ?_; clear f a; intro a f
      refine s_move f (g_none rfl) rfl rfl ?_; clear f a; intro a f
      refine s_skip f (g_no f rfl rfl rfl) rfl ?_; clear f a; intro a f
      refine s_skip f (g_no f rfl rfl rfl) rfl ?_; clear f a; intro a f
      refine s_skip f (g_no f rfl rfl rfl) rfl ?_; clear f a; intro a f
      refine s_pick (r := .bool true) f (g_none rfl) rfl rfl rfl rfl rfl ?_; clear f a; intro a f
      refine nil_then ?_
      refine c_true f rfl ?_
      refine reg_seq ?_
      refine s_assign f (g_none rfl) rfl rfl ?_; clear f a; intro a f
      refine nil_then ?_
      refine wp_ret ?_
      refine then_r ?_
      refine retG (vs := [.bool true]) f rfl ⟨rfl, trivial⟩ ?_
      exact ⟨congrArg Ending.returned (rfl), Ext.rfl'⟩
    · skip
      have hb5 : (decide (((b.length : Nat) : Int) ≤ 10000)) = false := decide_eq_false hc3
      rw [hb5] at f
      refine s_move f (g_yes f rfl rfl rfl) rfl rfl ?_; clear f a; intro a f
      refine t_len f (g_yes f rfl rfl rfl) rfl rfl Try.underlying32 rfl ?_; clear f a; intro a f
      refine s_bin f (g_yes f rfl rfl rfl) rfl rfl rfl rfl ?_; clear f a; intro a f
      refine s_pick (r := .bool (decide (12000 < ((b.length : Nat) : Int)))) f (g_none rfl) rfl rfl rfl rfl rfl ?_; clear f a; intro a f
      refine s_move f (g_none rfl) rfl rfl ?_; clear f a; intro a f
      by_cases hc6 : 12000 < ((b.length : Nat) : Int)
      · skip
        have hb7 : (decide (12000 < ((b.length : Nat) : Int))) = true := decide_eq_true hc6
        rw [hb7] at f
        refine s_skip f (g_no f rfl rfl rfl) rfl ?_; clear f a; intro a f
        refine s_skip f (g_no f rfl rfl rfl) rfl ?_; clear f a; intro a f
        refine s_skip f (g_no f rfl rfl rfl) rfl ?_; clear f a; intro a f
        refine s_pick (r := .bool true) f (g_none rfl) rfl rfl rfl rfl rfl ?_; clear f a; intro a f
        refine nil_then ?_
        refine c_true f rfl ?_
        refine reg_seq ?_
        refine s_assign f (g_none rfl) rfl rfl ?_; clear f a; intro a f
        refine nil_then ?_
        refine wp_ret ?_
        refine then_r ?_
        refine retG (vs := [.bool true]) f rfl ⟨rfl, trivial⟩ ?_
        exact ⟨congrArg Ending.returned (rfl), Ext.rfl'⟩
      · skip
        have hb8 : (decide (12000 < ((b.length : Nat) : Int))) = false := decide_eq_false hc6
        rw [hb8] at f
        refine s_move f (g_yes f rfl rfl rfl) rfl rfl ?_; clear f a; intro a f
        refine t_len f (g_yes f rfl rfl rfl) rfl rfl Try.underlying83 rfl ?_; clear f a; intro a f
        refine s_bin f (g_yes f rfl rfl rfl) rfl rfl rfl rfl ?_; clear f a; intro a f
        refine s_pick (r := .bool (decide (80 < ((l.length : Nat) : Int)))) f (g_none rfl) rfl rfl rfl rfl rfl ?_; clear f a; intro a f
        refine nil_then ?_
        by_cases hc9 : 80 < ((l.length : Nat) : Int)
        · skip
          have hb10 : (decide (80 < ((l.length : Nat) : Int))) = true := decide_eq_true hc9
          rw [hb10] at f
          refine c_true f rfl ?_
          refine reg_seq ?_
          refine s_assign f (g_none rfl) rfl rfl ?_; clear f a; intro a f
          refine nil_then ?_
          refine wp_ret ?_
          refine then_r ?_
          refine retG (vs := [.bool true]) f rfl ⟨rfl, trivial⟩ ?_
          exact ⟨congrArg Ending.returned (rfl), Ext.rfl'⟩
        · skip
          have hb11 : (decide (80 < ((l.length : Nat) : Int))) = false := decide_eq_false hc9
          rw [hb11] at f
          refine c_false f rfl ?_
          refine wp_skip ?_
          refine then_n ?_
          refine reg_seq ?_
          refine t_lit (E := bytesE) (l := []) (B := w.heap.size) f (g_none rfl) rfl Try.underlying32 ti5 rfl (pt0 f) (by decide) (fill_lit [] rfl rfl (by simp [Value.cells])) rfl rfl (Nat.le_refl _) ?_; clear f a; intro a w17 p12 c13 f hx15 ho14 hn16
          have hE := hx15; clear hx15
          clear hn16
          refine s_move f (g_none rfl) rfl rfl ?_; clear f a; intro a f
          refine t_append (E := bytesE) (l := []) (m := b) (lm := b) (B := w.heap.size) f (g_none rfl) rfl Try.underlying32 ti5 rfl rfl rfl ho14 (hr0.ext hE) (by first | omega | (simp; omega)) (by first | omega | (simp; omega)) (hE.size) (List.nil_append _) ?_; clear f a; intro a w23 p18 c19 f ho20 hg21 hn22
          replace hE := hE.gr hg21 (fun b e => (ho14.lt e).1)
          clear hg21
          clear ho14
          clear hn22
          refine s_assign f (g_none rfl) rfl rfl ?_; clear f a; intro a f
          refine nil_then ?_
          refine reg_seq ?_
          refine s_move f (g_none rfl) rfl rfl ?_; clear f a; intro a f
          refine s_call f (g_none rfl) rfl Try.func47 rfl rfl (ev1 f rfl) (wbytes_calls (p := p18) (b := b) (c := c19) (w := _) (hr0 := (ho20.rd))) ?_
          rintro _ w24 ⟨q25, d26, rfl, hx27, ho28⟩; refine ⟨_, rfl, ?_⟩; clear f a; intro a f
          have hs29 : ∀ b, sblk q25 = some b → sblk p18 ≠ some b := fun b e1 e2 => by have h1 := (ho28.lt e1).1; have h2 := (ho20.lt e2).2; omega
          replace ho28 := ho28.mono (hE.size)
          replace ho20 := ho20.ext hx27
          replace hE := hE.tr hx27
          clear hx27
          refine s_move f (g_none rfl) rfl rfl ?_; clear f a; intro a f
          refine s_extract (v := .slice q25 ((bytesOf b).1).length d26) f (g_none rfl) rfl rfl rfl ?_; clear f a; intro a f
          refine s_extract (v := .int .i64 (((bytesOf b).2 : Nat) : Int)) f (g_none rfl) rfl rfl rfl ?_; clear f a; intro a f
          refine s_assign f (g_none rfl) rfl rfl ?_; clear f a; intro a f
          refine s_assign f (g_none rfl) rfl rfl ?_; clear f a; intro a f
          refine nil_then ?_
          refine reg_seq ?_
          refine s_move f (g_none rfl) rfl rfl ?_; clear f a; intro a f
          refine s_call f (g_none rfl) rfl Try.func63 rfl rfl (ev1 f rfl) (rbytes_calls (p := p) (b := b) (c := c) (w := _) (hr0 := (hr0.ext hE))) ?_
          rintro _ w30 ⟨q31, d32, rfl, hx33, ho34⟩; refine ⟨_, rfl, ?_⟩; clear f a; intro a f
          have hs35 : ∀ b, sblk q31 = some b → sblk p18 ≠ some b := fun b e1 e2 => by have h1 := (ho34.lt e1).1; have h2 := (ho20.lt e2).2; omega
          have hs36 : ∀ b, sblk q31 = some b → sblk q25 ≠ some b := fun b e1 e2 => by have h1 := (ho34.lt e1).1; have h2 := (ho28.lt e2).2; omega
          replace ho34 := ho34.mono (hE.size)
          replace ho20 := ho20.ext hx33
          replace ho28 := ho28.ext hx33
          replace hE := hE.tr hx33
          clear hx33
          refine s_move f (g_none rfl) rfl rfl ?_; clear f a; intro a f
          refine s_extract (v := .slice q31 ((bytesOf b).1).length d32) f (g_none rfl) rfl rfl rfl ?_; clear f a; intro a f
          refine s_extract (v := .int .i64 (((bytesOf b).2 : Nat) : Int)) f (g_none rfl) rfl rfl rfl ?_; clear f a; intro a f
          refine s_assign f (g_none rfl) rfl rfl ?_; clear f a; intro a f
          refine s_assign f (g_none rfl) rfl rfl ?_; clear f a; intro a f
          refine nil_then ?_
          refine reg_seq ?_
          refine s_move f (g_none rfl) rfl rfl ?_; clear f a; intro a f
          refine s_move f (g_none rfl) rfl rfl ?_; clear f a; intro a f
          refine s_call f (g_none rfl) rfl Try.func48 rfl rfl (ev2 f rfl rfl) (readb_calls (p := p18) (b := b) (c := c19) (m := m) (h1 := (by omega)) (h2 := (by omega)) (hb := (by omega)) (w := _) (hr0 := (ho20.rd))) ?_
          rintro _ w37 ⟨q38, d39, rfl, hx40, ho41⟩; refine ⟨_, rfl, ?_⟩; clear f a; intro a f
          have hs42 : ∀ b, sblk q38 = some b → sblk p18 ≠ some b := fun b e1 e2 => by have h1 := (ho41.lt e1).1; have h2 := (ho20.lt e2).2; omega
          have hs43 : ∀ b, sblk q38 = some b → sblk q25 ≠ some b := fun b e1 e2 => by have h1 := (ho41.lt e1).1; have h2 := (ho28.lt e2).2; omega
          have hs44 : ∀ b, sblk q38 = some b → sblk q31 ≠ some b := fun b e1 e2 => by have h1 := (ho41.lt e1).1; have h2 := (ho34.lt e2).2; omega
          replace ho41 := ho41.mono (hE.size)
          replace ho20 := ho20.ext hx40
          replace ho28 := ho28.ext hx40
          replace ho34 := ho34.ext hx40
          replace hE := hE.tr hx40
          clear hx40
          refine s_move f (g_none rfl) rfl rfl ?_; clear f a; intro a f
          refine s_extract (v := .slice q38 ((partL b m 1).1).length d39) f (g_none rfl) rfl rfl rfl ?_; clear f a; intro a f
          refine s_extract (v := .int .i64 (((partL b m 1).2.1 : Nat) : Int)) f (g_none rfl) rfl rfl rfl ?_; clear f a; intro a f
          refine s_extract (v := .int .i64 (((partL b m 1).2.2 : Nat) : Int)) f (g_none rfl) rfl rfl rfl ?_; clear f a; intro a f
          refine s_assign f (g_none rfl) rfl rfl ?_; clear f a; intro a f
          refine s_assign f (g_none rfl) rfl rfl ?_; clear f a; intro a f
          refine s_assign f (g_none rfl) rfl rfl ?_; clear f a; intro a f
          refine nil_then ?_
          refine reg_seq ?_
          refine s_move f (g_none rfl) rfl rfl ?_; clear f a; intro a f
          refine s_move f (g_none rfl) rfl rfl ?_; clear f a; intro a f
          refine s_call f (g_none rfl) rfl Try.func64 rfl rfl (ev2 f rfl rfl) (rreadb_calls (p := p) (b := b) (c := c) (m := m) (h1 := (by omega)) (h2 := (by omega)) (hb := (by omega)) (w := _) (hr0 := (hr0.ext hE))) ?_
          rintro _ w45 ⟨q46, d47, rfl, hx48, ho49⟩; refine ⟨_, rfl, ?_⟩; clear f a; intro a f
          have hs50 : ∀ b, sblk q46 = some b → sblk p18 ≠ some b := fun b e1 e2 => by have h1 := (ho49.lt e1).1; have h2 := (ho20.lt e2).2; omega
          have hs51 : ∀ b, sblk q46 = some b → sblk q25 ≠ some b := fun b e1 e2 => by have h1 := (ho49.lt e1).1; have h2 := (ho28.lt e2).2; omega
          have hs52 : ∀ b, sblk q46 = some b → sblk q31 ≠ some b := fun b e1 e2 => by have h1 := (ho49.lt e1).1; have h2 := (ho34.lt e2).2; omega
          have hs53 : ∀ b, sblk q46 = some b → sblk q38 ≠ some b := fun b e1 e2 => by have h1 := (ho49.lt e1).1; have h2 := (ho41.lt e2).2; omega
          replace ho49 := ho49.mono (hE.size)
          replace ho20 := ho20.ext hx48
          replace ho28 := ho28.ext hx48
          replace ho34 := ho34.ext hx48
          replace ho41 := ho41.ext hx48
          replace hE := hE.tr hx48
          clear hx48
          refine s_move f (g_none rfl) rfl rfl ?_; clear f a; intro a f
          refine s_extract (v := .slice q46 ((partL b m 1).1).length d47) f (g_none rfl) rfl rfl rfl ?_; clear f a; intro a f
          refine s_extract (v := .int .i64 (((partL b m 1).2.1 : Nat) : Int)) f (g_none rfl) rfl rfl rfl ?_; clear f a; intro a f
          refine s_extract (v := .int .i64 (((partL b m 1).2.2 : Nat) : Int)) f (g_none rfl) rfl rfl rfl ?_; clear f a; intro a f
          refine s_assign f (g_none rfl) rfl rfl ?_; clear f a; intro a f
          refine s_assign f (g_none rfl) rfl rfl ?_; clear f a; intro a f
          refine s_assign f (g_none rfl) rfl rfl ?_; clear f a; intro a f
          refine nil_then ?_
          refine reg_seq ?_
          refine s_move f (g_none rfl) rfl rfl ?_; clear f a; intro a f
          refine s_call f (g_none rfl) rfl Try.func59 rfl rfl (ev1 f rfl) (wids_calls (p := q) (l := l) (c := d) (w := _) (hr0 := (hr1.ext hE))) ?_
          rintro _ w54 ⟨q55, d56, rfl, hx57, ho58⟩; refine ⟨_, rfl, ?_⟩; clear f a; intro a f
          have hs59 : ∀ b, sblk q55 = some b → sblk p18 ≠ some b := fun b e1 e2 => by have h1 := (ho58.lt e1).1; have h2 := (ho20.lt e2).2; omega
          have hs60 : ∀ b, sblk q55 = some b → sblk q25 ≠ some b := fun b e1 e2 => by have h1 := (ho58.lt e1).1; have h2 := (ho28.lt e2).2; omega
          have hs61 : ∀ b, sblk q55 = some b → sblk q31 ≠ some b := fun b e1 e2 => by have h1 := (ho58.lt e1).1; have h2 := (ho34.lt e2).2; omega
          have hs62 : ∀ b, sblk q55 = some b → sblk q38 ≠ some b := fun b e1 e2 => by have h1 := (ho58.lt e1).1; have h2 := (ho41.lt e2).2; omega
          have hs63 : ∀ b, sblk q55 = some b → sblk q46 ≠ some b := fun b e1 e2 => by have h1 := (ho58.lt e1).1; have h2 := (ho49.lt e2).2; omega
          replace ho58 := ho58.mono (hE.size)
          replace ho20 := ho20.ext hx57
          replace ho28 := ho28.ext hx57
          replace ho34 := ho34.ext hx57
          replace ho41 := ho41.ext hx57
          replace ho49 := ho49.ext hx57
          replace hE := hE.tr hx57
          clear hx57
          refine s_move f (g_none rfl) rfl rfl ?_; clear f a; intro a f
          refine s_extract (v := .slice q55 ((idsOf l).1).length d56) f (g_none rfl) rfl rfl rfl ?_; clear f a; intro a f
          refine s_extract (v := .int .i64 (((idsOf l).2 : Nat) : Int)) f (g_none rfl) rfl rfl rfl ?_; clear f a; intro a f
          refine s_assign f (g_none rfl) rfl rfl ?_; clear f a; intro a f
          refine s_assign f (g_none rfl) rfl rfl ?_; clear f a; intro a f
          refine nil_then ?_
          refine reg_seq ?_
          refine s_move f (g_none rfl) rfl rfl ?_; clear f a; intro a f
          refine s_call f (g_none rfl) rfl Try.func65 rfl rfl (ev1 f rfl) (ridsr_calls (p := q) (l := l) (c := d) (w := _) (hr0 := (hr1.ext hE))) ?_
          rintro _ w64 ⟨q65, d66, rfl, hx67, ho68⟩; refine ⟨_, rfl, ?_⟩; clear f a; intro a f
          have hs69 : ∀ b, sblk q65 = some b → sblk p18 ≠ some b := fun b e1 e2 => by have h1 := (ho68.lt e1).1; have h2 := (ho20.lt e2).2; omega
          have hs70 : ∀ b, sblk q65 = some b → sblk q25 ≠ some b := fun b e1 e2 => by have h1 := (ho68.lt e1).1; have h2 := (ho28.lt e2).2; omega
          have hs71 : ∀ b, sblk q65 = some b → sblk q31 ≠ some b := fun b e1 e2 => by have h1 := (ho68.lt e1).1; have h2 := (ho34.lt e2).2; omega
          have hs72 : ∀ b, sblk q65 = some b → sblk q38 ≠ some b := fun b e1 e2 => by have h1 := (ho68.lt e1).1; have h2 := (ho41.lt e2).2; omega
          have hs73 : ∀ b, sblk q65 = some b → sblk q46 ≠ some b := fun b e1 e2 => by have h1 := (ho68.lt e1).1; have h2 := (ho49.lt e2).2; omega
          have hs74 : ∀ b, sblk q65 = some b → sblk q55 ≠ some b := fun b e1 e2 => by have h1 := (ho68.lt e1).1; have h2 := (ho58.lt e2).2; omega
          replace ho68 := ho68.mono (hE.size)
          replace ho20 := ho20.ext hx67
          replace ho28 := ho28.ext hx67
          replace ho34 := ho34.ext hx67
          replace ho41 := ho41.ext hx67
          replace ho49 := ho49.ext hx67
          replace ho58 := ho58.ext hx67
          replace hE := hE.tr hx67
          clear hx67
          refine s_move f (g_none rfl) rfl rfl ?_; clear f a; intro a f
          refine s_extract (v := .slice q65 ((idsOf l).1).length d66) f (g_none rfl) rfl rfl rfl ?_; clear f a; intro a f
          refine s_extract (v := .int .i64 (((idsOf l).2 : Nat) : Int)) f (g_none rfl) rfl rfl rfl ?_; clear f a; intro a f
          refine s_assign f (g_none rfl) rfl rfl ?_; clear f a; intro a f
          refine s_assign f (g_none rfl) rfl rfl ?_; clear f a; intro a f
          refine nil_then ?_
          refine reg_seq ?_
          refine s_move f (g_none rfl) rfl rfl ?_; clear f a; intro a f
          refine s_move f (g_none rfl) rfl rfl ?_; clear f a; intro a f
          refine s_call f (g_none rfl) rfl Try.func61 rfl rfl (ev2 f rfl rfl) (rids_calls (p := p18) (b := b) (c := c19) (m := m) (h1 := (by omega)) (h2 := (by omega)) (hb := (by omega)) (w := _) (hr0 := (ho20.rd))) ?_
          rintro _ w75 ⟨q76, d77, rfl, hx78, ho79⟩; refine ⟨_, rfl, ?_⟩; clear f a; intro a f
          have hs80 : ∀ b, sblk q76 = some b → sblk p18 ≠ some b := fun b e1 e2 => by have h1 := (ho79.lt e1).1; have h2 := (ho20.lt e2).2; omega
          have hs81 : ∀ b, sblk q76 = some b → sblk q25 ≠ some b := fun b e1 e2 => by have h1 := (ho79.lt e1).1; have h2 := (ho28.lt e2).2; omega
          have hs82 : ∀ b, sblk q76 = some b → sblk q31 ≠ some b := fun b e1 e2 => by have h1 := (ho79.lt e1).1; have h2 := (ho34.lt e2).2; omega
          have hs83 : ∀ b, sblk q76 = some b → sblk q38 ≠ some b := fun b e1 e2 => by have h1 := (ho79.lt e1).1; have h2 := (ho41.lt e2).2; omega
          have hs84 : ∀ b, sblk q76 = some b → sblk q46 ≠ some b := fun b e1 e2 => by have h1 := (ho79.lt e1).1; have h2 := (ho49.lt e2).2; omega
          have hs85 : ∀ b, sblk q76 = some b → sblk q55 ≠ some b := fun b e1 e2 => by have h1 := (ho79.lt e1).1; have h2 := (ho58.lt e2).2; omega
          have hs86 : ∀ b, sblk q76 = some b → sblk q65 ≠ some b := fun b e1 e2 => by have h1 := (ho79.lt e1).1; have h2 := (ho68.lt e2).2; omega
          replace ho79 := ho79.mono (hE.size)
          replace ho20 := ho20.ext hx78
          replace ho28 := ho28.ext hx78
          replace ho34 := ho34.ext hx78
          replace ho41 := ho41.ext hx78
          replace ho49 := ho49.ext hx78
          replace ho58 := ho58.ext hx78
          replace ho68 := ho68.ext hx78
          replace hE := hE.tr hx78
          clear hx78
          refine s_move f (g_none rfl) rfl rfl ?_; clear f a; intro a f
          refine s_extract (v := .slice q76 ((readI b m).1).length d77) f (g_none rfl) rfl rfl rfl ?_; clear f a; intro a f
          refine s_extract (v := .int .i64 (((readI b m).2.1 : Nat) : Int)) f (g_none rfl) rfl rfl rfl ?_; clear f a; intro a f
          refine s_extract (v := .int .i64 (((readI b m).2.2 : Nat) : Int)) f (g_none rfl) rfl rfl rfl ?_; clear f a; intro a f
          refine s_assign f (g_none rfl) rfl rfl ?_; clear f a; intro a f
          refine s_assign f (g_none rfl) rfl rfl ?_; clear f a; intro a f
          refine s_assign f (g_none rfl) rfl rfl ?_; clear f a; intro a f
          refine nil_then ?_
          refine reg_seq ?_
          refine s_move f (g_none rfl) rfl rfl ?_; clear f a; intro a f
          refine s_move f (g_none rfl) rfl rfl ?_; clear f a; intro a f
          refine s_call f (g_none rfl) rfl Try.func66 rfl rfl (ev2 f rfl rfl) (rrids_calls (p := p) (b := b) (c := c) (m := m) (h1 := (by omega)) (h2 := (by omega)) (hb := (by omega)) (w := _) (hr0 := (hr0.ext hE))) ?_
          rintro _ w87 ⟨q88, d89, rfl, hx90, ho91⟩; refine ⟨_, rfl, ?_⟩; clear f a; intro a f
          have hs92 : ∀ b, sblk q88 = some b → sblk p18 ≠ some b := fun b e1 e2 => by have h1 := (ho91.lt e1).1; have h2 := (ho20.lt e2).2; omega
          have hs93 : ∀ b, sblk q88 = some b → sblk q25 ≠ some b := fun b e1 e2 => by have h1 := (ho91.lt e1).1; have h2 := (ho28.lt e2).2; omega
          have hs94 : ∀ b, sblk q88 = some b → sblk q31 ≠ some b := fun b e1 e2 => by have h1 := (ho91.lt e1).1; have h2 := (ho34.lt e2).2; omega
          have hs95 : ∀ b, sblk q88 = some b → sblk q38 ≠ some b := fun b e1 e2 => by have h1 := (ho91.lt e1).1; have h2 := (ho41.lt e2).2; omega
          have hs96 : ∀ b, sblk q88 = some b → sblk q46 ≠ some b := fun b e1 e2 => by have h1 := (ho91.lt e1).1; have h2 := (ho49.lt e2).2; omega
          have hs97 : ∀ b, sblk q88 = some b → sblk q55 ≠ some b := fun b e1 e2 => by have h1 := (ho91.lt e1).1; have h2 := (ho58.lt e2).2; omega
          have hs98 : ∀ b, sblk q88 = some b → sblk q65 ≠ some b := fun b e1 e2 => by have h1 := (ho91.lt e1).1; have h2 := (ho68.lt e2).2; omega
          have hs99 : ∀ b, sblk q88 = some b → sblk q76 ≠ some b := fun b e1 e2 => by have h1 := (ho91.lt e1).1; have h2 := (ho79.lt e2).2; omega
          replace ho91 := ho91.mono (hE.size)
          replace ho20 := ho20.ext hx90
          replace ho28 := ho28.ext hx90
          replace ho34 := ho34.ext hx90
          replace ho41 := ho41.ext hx90
          replace ho49 := ho49.ext hx90
          replace ho58 := ho58.ext hx90
          replace ho68 := ho68.ext hx90
          replace ho79 := ho79.ext hx90
          replace hE := hE.tr hx90
          clear hx90
          refine s_move f (g_none rfl) rfl rfl ?_; clear f a; intro a f
          refine s_extract (v := .slice q88 ((readI b m).1).length d89) f (g_none rfl) rfl rfl rfl ?_; clear f a; intro a f
          refine s_extract (v := .int .i64 (((readI b m).2.1 : Nat) : Int)) f (g_none rfl) rfl rfl rfl ?_; clear f a; intro a f
          refine s_extract (v := .int .i64 (((readI b m).2.2 : Nat) : Int)) f (g_none rfl) rfl rfl rfl ?_; clear f a; intro a f
          refine s_assign f (g_none rfl) rfl rfl ?_; clear f a; intro a f
          refine s_assign f (g_none rfl) rfl rfl ?_; clear f a; intro a f
          refine s_assign f (g_none rfl) rfl rfl ?_; clear f a; intro a f
          refine nil_then ?_
          refine wp_seq ?_
          refine reg_seq ?_
          refine s_assign f (g_none rfl) rfl rfl ?_; clear f a; intro a f
          refine nil_then ?_
          refine wp_block ?_
          refine loop_ghost (α := Nat × List UInt8) (fun gg a wr => let ⟨i, L⟩ := gg; Frm 158 [(0, .slice p b.length c), (1, .slice q l.length d), (2, .int .i64 m), (6, .bool false), (7, .slice p18 L.length c19), (8, .slice q25 ((bytesOf b).1).length d26), (9, .int .i64 (((bytesOf b).2 : Nat) : Int)), (10, .slice q31 ((bytesOf b).1).length d32), (11, .int .i64 (((bytesOf b).2 : Nat) : Int)), (12, .slice q38 ((partL b m 1).1).length d39), (13, .int .i64 (((partL b m 1).2.1 : Nat) : Int)), (14, .int .i64 (((partL b m 1).2.2 : Nat) : Int)), (15, .slice q46 ((partL b m 1).1).length d47), (16, .int .i64 (((partL b m 1).2.1 : Nat) : Int)), (17, .int .i64 (((partL b m 1).2.2 : Nat) : Int)), (18, .slice q55 ((idsOf l).1).length d56), (19, .int .i64 (((idsOf l).2 : Nat) : Int)), (20, .slice q65 ((idsOf l).1).length d66), (21, .int .i64 (((idsOf l).2 : Nat) : Int)), (22, .slice q76 ((readI b m).1).length d77), (23, .int .i64 (((readI b m).2.1 : Nat) : Int)), (24, .int .i64 (((readI b m).2.2 : Nat) : Int)), (25, .slice q88 ((readI b m).1).length d89), (26, .int .i64 (((readI b m).2.1 : Nat) : Int)), (27, .int .i64 (((readI b m).2.2 : Nat) : Int)), (28, .int .i64 ((i : Nat) : Int))] a ∧ Ext w wr ∧ OwL bytesE wr w.heap.size 5 q25 d26 ((bytesOf b).1) ∧ OwL bytesE wr w.heap.size 5 q31 d32 ((bytesOf b).1) ∧ OwL bytesE wr w.heap.size 5 q38 d39 ((partL b m 1).1) ∧ OwL bytesE wr w.heap.size 5 q46 d47 ((partL b m 1).1) ∧ OwL bytesE wr w.heap.size 5 q55 d56 ((idsOf l).1) ∧ OwL bytesE wr w.heap.size 5 q65 d66 ((idsOf l).1) ∧ OwL idsE wr w.heap.size 102 q76 d77 ((readI b m).1) ∧ OwL idsE wr w.heap.size 102 q88 d89 ((readI b m).1) ∧ OwL bytesE wr w.heap.size 5 p18 c19 L ∧ (∀ b, sblk p18 = some b → sblk q25 ≠ some b) ∧ (∀ b, sblk p18 = some b → sblk q31 ≠ some b) ∧ (∀ b, sblk p18 = some b → sblk q38 ≠ some b) ∧ (∀ b, sblk p18 = some b → sblk q46 ≠ some b) ∧ (∀ b, sblk p18 = some b → sblk q55 ≠ some b) ∧ (∀ b, sblk p18 = some b → sblk q65 ≠ some b) ∧ (∀ b, sblk p18 = some b → sblk q76 ≠ some b) ∧ (∀ b, sblk p18 = some b → sblk q88 ≠ some b) ∧ i ≤ L.length ∧ L.length ≤ 12000) (fun gg => let ⟨i, L⟩ := gg; L.length - i) (0, b) ?_ ?_
          · skip
            exact ⟨(Frm.pick f (Frm.pick f (Frm.pick f (Frm.pick f (Frm.pick f (Frm.pick f (Frm.pick f (Frm.pick f (Frm.pick f (Frm.pick f (Frm.pick f (Frm.pick f (Frm.pick f (Frm.pick f (Frm.pick f (Frm.pick f (Frm.pick f (Frm.pick f (Frm.pick f (Frm.pick f (Frm.pick f (Frm.pick f (Frm.pick f (Frm.pick f (Frm.pick f (Frm.pick f f.nil rfl) rfl) rfl) rfl) rfl) rfl) rfl) rfl) rfl) rfl) rfl) rfl) rfl) rfl) rfl) rfl) rfl) rfl) rfl) rfl) rfl) rfl) rfl) rfl) rfl) rfl), hE, ho28, ho34, ho41, ho49, ho58, ho68, ho79, ho91, ho20, (by intro b e1 e2; first | exact hs29 b e1 e2 | exact hs29 b e2 e1), (by intro b e1 e2; first | exact hs35 b e1 e2 | exact hs35 b e2 e1), (by intro b e1 e2; first | exact hs42 b e1 e2 | exact hs42 b e2 e1), (by intro b e1 e2; first | exact hs50 b e1 e2 | exact hs50 b e2 e1), (by intro b e1 e2; first | exact hs59 b e1 e2 | exact hs59 b e2 e1), (by intro b e1 e2; first | exact hs69 b e1 e2 | exact hs69 b e2 e1), (by intro b e1 e2; first | exact hs80 b e1 e2 | exact hs80 b e2 e1), (by intro b e1 e2; first | exact hs92 b e1 e2 | exact hs92 b e2 e1), (by omega), (by omega)⟩
          · skip
            clear f a
            clear ho20
            clear ho28
            clear ho34
            clear ho41
            clear ho49
            clear ho58
            clear ho68
            clear ho79
            clear ho91
            clear hE
            rintro ⟨i, L⟩ a wr ⟨f, hE, ho28, ho34, ho41, ho49, ho58, ho68, ho79, ho91, hw, hs101, hs102, hs103, hs104, hs105, hs106, hs107, hs108, hi, hL⟩
            refine wp_seq ?_
            refine reg_seq ?_
            refine s_move f (g_none rfl) rfl rfl ?_; clear f a; intro a f
            refine s_move f (g_none rfl) rfl rfl ?_; clear f a; intro a f
            refine t_len f (g_none rfl) rfl rfl Try.underlying32 rfl ?_; clear f a; intro a f
            refine s_bin f (g_none rfl) rfl rfl rfl rfl ?_; clear f a; intro a f
            refine nil_then ?_
            by_cases hc109 : ((i : Nat) : Int) < ((L.length : Nat) : Int)
            · skip
              have hb110 : (decide (((i : Nat) : Int) < ((L.length : Nat) : Int))) = true := decide_eq_true hc109
              rw [hb110] at f
              refine c_true f rfl ?_
              refine wp_skip ?_
              refine then_n ?_
              refine wp_seq ?_
              refine wp_block ?_
              refine wp_region_lit ?_
              refine s_move f (g_none rfl) rfl rfl ?_; clear f a; intro a f
              refine s_move f (g_none rfl) rfl rfl ?_; clear f a; intro a f
              refine t_indexAddr (j := i) (E := bytesE) f (g_none rfl) rfl Try.underlying32 ti5 rfl (hw.rd) rfl rfl rfl (by omega) ?_; clear f a; intro a f
              refine t_load (j := i) (e := L.getD i 0) (E := bytesE) f (g_none rfl) rfl sc5 rfl (hw.rd) rfl (getD_some (by omega)) rfl ?_; clear f a; intro a f
              refine s_bin f (g_none rfl) rfl rfl rfl (arith_add (r := (((UInt8.ofNat ((L.getD i 0).toNat + 1)).toNat : Nat) : Int)) (wrap_u8_ofNat _)) ?_; clear f a; intro a f
              refine t_indexAddr (j := i) (E := bytesE) f (g_none rfl) rfl Try.underlying32 ti5 rfl (hw.rd) rfl rfl rfl (by omega) ?_; clear f a; intro a f
              refine t_store (j := i) (e := UInt8.ofNat ((L.getD i 0).toNat + 1)) (E := bytesE) (l' := L.set i (UInt8.ofNat ((L.getD i 0).toNat + 1))) f (g_none rfl) ti5 rfl rfl rfl hw rfl (by omega) rfl ?_; intro w111 hg112 ho113 hl114
              replace ho28 := ho28.gr' hg112 (by intro b e e2; first | exact hs101 b e e2 | exact hs101 b e2 e)
              replace ho34 := ho34.gr' hg112 (by intro b e e2; first | exact hs102 b e e2 | exact hs102 b e2 e)
              replace ho41 := ho41.gr' hg112 (by intro b e e2; first | exact hs103 b e e2 | exact hs103 b e2 e)
              replace ho49 := ho49.gr' hg112 (by intro b e e2; first | exact hs104 b e e2 | exact hs104 b e2 e)
              replace ho58 := ho58.gr' hg112 (by intro b e e2; first | exact hs105 b e e2 | exact hs105 b e2 e)
              replace ho68 := ho68.gr' hg112 (by intro b e e2; first | exact hs106 b e e2 | exact hs106 b e2 e)
              replace ho79 := ho79.gr' hg112 (by intro b e e2; first | exact hs107 b e e2 | exact hs107 b e2 e)
              replace ho91 := ho91.gr' hg112 (by intro b e e2; first | exact hs108 b e e2 | exact hs108 b e2 e)
              replace hE := hE.gr hg112 (fun b e => (hw.lt e).1)
              clear hg112
              clear hw
              rw [← hl114] at f
              clear hl114
              refine wpList_nil ?_
              refine blk_n ?_
              refine then_n ?_
              refine wp_region_lit ?_
              refine s_move f (g_none rfl) rfl rfl ?_; clear f a; intro a f
              refine s_bin f (g_none rfl) rfl rfl rfl (arith_add (r := ((i + 1 : Nat) : Int)) (wrap_i64 (by omega) (by omega))) ?_; clear f a; intro a f
              refine s_assign f (g_none rfl) rfl rfl ?_; clear f a; intro a f
              refine wpList_nil ?_
              refine then_n ?_
              refine ⟨(i + 1, L.set i (UInt8.ofNat ((L.getD i 0).toNat + 1))), ?_, ?_⟩
              · skip
                exact ⟨(Frm.pick f (Frm.pick f (Frm.pick f (Frm.pick f (Frm.pick f (Frm.pick f (Frm.pick f (Frm.pick f (Frm.pick f (Frm.pick f (Frm.pick f (Frm.pick f (Frm.pick f (Frm.pick f (Frm.pick f (Frm.pick f (Frm.pick f (Frm.pick f (Frm.pick f (Frm.pick f (Frm.pick f (Frm.pick f (Frm.pick f (Frm.pick f (Frm.pick f (Frm.pick f f.nil rfl) rfl) rfl) rfl) rfl) rfl) rfl) rfl) rfl) rfl) rfl) rfl) rfl) rfl) rfl) rfl) rfl) rfl) rfl) rfl) rfl) rfl) rfl) rfl) rfl) rfl), hE, ho28, ho34, ho41, ho49, ho58, ho68, ho79, ho91, ho113, (by intro b e1 e2; first | exact hs101 b e1 e2 | exact hs101 b e2 e1), (by intro b e1 e2; first | exact hs102 b e1 e2 | exact hs102 b e2 e1), (by intro b e1 e2; first | exact hs103 b e1 e2 | exact hs103 b e2 e1), (by intro b e1 e2; first | exact hs104 b e1 e2 | exact hs104 b e2 e1), (by intro b e1 e2; first | exact hs105 b e1 e2 | exact hs105 b e2 e1), (by intro b e1 e2; first | exact hs106 b e1 e2 | exact hs106 b e2 e1), (by intro b e1 e2; first | exact hs107 b e1 e2 | exact hs107 b e2 e1), (by intro b e1 e2; first | exact hs108 b e1 e2 | exact hs108 b e2 e1), (by simp; omega), (by simp; omega)⟩
              · show (L.set i (UInt8.ofNat ((L.getD i 0).toNat + 1))).length - (i + 1) < L.length - i; simp; omega
            · skip
              have hb115 : (decide (((i : Nat) : Int) < ((L.length : Nat) : Int))) = false := decide_eq_false hc109
              rw [hb115] at f
              refine c_false f rfl ?_
              refine wp_exit ?_
              refine then_e ?_
              refine then_e ?_
              refine blk_e ?_
              refine then_n ?_
              refine reg_seq ?_
              refine s_move f (g_none rfl) rfl rfl ?_; clear f a; intro a f
              refine s_move f (g_none rfl) rfl rfl ?_; clear f a; intro a f
              refine s_call f (g_none rfl) rfl Try.func30 rfl rfl (ev2 f rfl rfl) (same_calls (p := q25) (x := (bytesOf b).1) (c := d26) (q := q31) (y := (bytesOf b).1) (d := d32) (w := _) (hr0 := (ho28.rd)) (hr1 := (ho34.rd))) ?_
              rintro _ w116 ⟨rfl, hx117⟩; refine ⟨_, rfl, ?_⟩; clear f a; intro a f
              replace ho28 := ho28.ext hx117
              replace ho34 := ho34.ext hx117
              replace ho41 := ho41.ext hx117
              replace ho49 := ho49.ext hx117
              replace ho58 := ho58.ext hx117
              replace ho68 := ho68.ext hx117
              replace ho79 := ho79.ext hx117
              replace ho91 := ho91.ext hx117
              replace hw := hw.ext hx117
              replace hE := hE.tr hx117
              clear hx117
              refine s_move f (g_none rfl) rfl rfl ?_; clear f a; intro a f
              have hb118 : (decide (((bytesOf b).1) = ((bytesOf b).1))) = true := decide_eq_true (by rfl)
              rw [hb118] at f
              refine s_move f (g_yes f rfl rfl rfl) rfl rfl ?_; clear f a; intro a f
              refine s_move f (g_yes f rfl rfl rfl) rfl rfl ?_; clear f a; intro a f
              refine s_bin (v := .bool (decide ((((bytesOf b).2 : Nat) : Int) = (((bytesOf b).2 : Nat) : Int)))) f (g_yes f rfl rfl rfl) rfl rfl rfl arith_eql ?_; clear f a; intro a f
              refine s_pick (r := .bool (decide ((((bytesOf b).2 : Nat) : Int) = (((bytesOf b).2 : Nat) : Int)))) f (g_none rfl) rfl rfl rfl rfl rfl ?_; clear f a; intro a f
              refine s_move f (g_none rfl) rfl rfl ?_; clear f a; intro a f
              have hb119 : (decide ((((bytesOf b).2 : Nat) : Int) = (((bytesOf b).2 : Nat) : Int))) = true := decide_eq_true (by rfl)
              rw [hb119] at f
              refine s_move f (g_yes f rfl rfl rfl) rfl rfl ?_; clear f a; intro a f
              refine s_move f (g_yes f rfl rfl rfl) rfl rfl ?_; clear f a; intro a f
              refine s_call f (g_yes f rfl rfl rfl) rfl Try.func30 rfl rfl (ev2 f rfl rfl) (same_calls (p := q38) (x := (partL b m 1).1) (c := d39) (q := q46) (y := (partL b m 1).1) (d := d47) (w := _) (hr0 := (ho41.rd)) (hr1 := (ho49.rd))) ?_
              rintro _ w120 ⟨rfl, hx121⟩; refine ⟨_, rfl, ?_⟩; clear f a; intro a f
              replace ho28 := ho28.ext hx121
              replace ho34 := ho34.ext hx121
              replace ho41 := ho41.ext hx121
              replace ho49 := ho49.ext hx121
              replace ho58 := ho58.ext hx121
              replace ho68 := ho68.ext hx121
              replace ho79 := ho79.ext hx121
              replace ho91 := ho91.ext hx121
              replace hw := hw.ext hx121
              replace hE := hE.tr hx121
              clear hx121
              refine s_pick (r := .bool (decide (((partL b m 1).1) = ((partL b m 1).1)))) f (g_none rfl) rfl rfl rfl rfl rfl ?_; clear f a; intro a f
              refine s_move f (g_none rfl) rfl rfl ?_; clear f a; intro a f
              have hb122 : (decide (((partL b m 1).1) = ((partL b m 1).1))) = true := decide_eq_true (by rfl)
              rw [hb122] at f
              refine s_move f (g_yes f rfl rfl rfl) rfl rfl ?_; clear f a; intro a f
              refine s_move f (g_yes f rfl rfl rfl) rfl rfl ?_; clear f a; intro a f
              refine s_bin (v := .bool (decide ((((partL b m 1).2.1 : Nat) : Int) = (((partL b m 1).2.1 : Nat) : Int)))) f (g_yes f rfl rfl rfl) rfl rfl rfl arith_eql ?_; clear f a; intro a f
              refine s_pick (r := .bool (decide ((((partL b m 1).2.1 : Nat) : Int) = (((partL b m 1).2.1 : Nat) : Int)))) f (g_none rfl) rfl rfl rfl rfl rfl ?_; clear f a; intro a f
              refine s_move f (g_none rfl) rfl rfl ?_; clear f a; intro a f
              have hb123 : (decide ((((partL b m 1).2.1 : Nat) : Int) = (((partL b m 1).2.1 : Nat) : Int))) = true := decide_eq_true (by rfl)
              rw [hb123] at f
              refine s_move f (g_yes f rfl rfl rfl) rfl rfl ?_; clear f a; intro a f
              refine s_move f (g_yes f rfl rfl rfl) rfl rfl ?_; clear f a; intro a f
              refine s_bin (v := .bool (decide ((((partL b m 1).2.2 : Nat) : Int) = (((partL b m 1).2.2 : Nat) : Int)))) f (g_yes f rfl rfl rfl) rfl rfl rfl arith_eql ?_; clear f a; intro a f
              refine s_pick (r := .bool (decide ((((partL b m 1).2.2 : Nat) : Int) = (((partL b m 1).2.2 : Nat) : Int)))) f (g_none rfl) rfl rfl rfl rfl rfl ?_; clear f a; intro a f
              refine s_move f (g_none rfl) rfl rfl ?_; clear f a; intro a f
              have hb124 : (decide ((((partL b m 1).2.2 : Nat) : Int) = (((partL b m 1).2.2 : Nat) : Int))) = true := decide_eq_true (by rfl)
              rw [hb124] at f
              refine s_move f (g_yes f rfl rfl rfl) rfl rfl ?_; clear f a; intro a f
              refine s_move f (g_yes f rfl rfl rfl) rfl rfl ?_; clear f a; intro a f
              refine s_call f (g_yes f rfl rfl rfl) rfl Try.func30 rfl rfl (ev2 f rfl rfl) (same_calls (p := q55) (x := (idsOf l).1) (c := d56) (q := q65) (y := (idsOf l).1) (d := d66) (w := _) (hr0 := (ho58.rd)) (hr1 := (ho68.rd))) ?_
              rintro _ w125 ⟨rfl, hx126⟩; refine ⟨_, rfl, ?_⟩; clear f a; intro a f
              replace ho28 := ho28.ext hx126
              replace ho34 := ho34.ext hx126
              replace ho41 := ho41.ext hx126
              replace ho49 := ho49.ext hx126
              replace ho58 := ho58.ext hx126
              replace ho68 := ho68.ext hx126
              replace ho79 := ho79.ext hx126
              replace ho91 := ho91.ext hx126
              replace hw := hw.ext hx126
              replace hE := hE.tr hx126
              clear hx126
              refine s_pick (r := .bool (decide (((idsOf l).1) = ((idsOf l).1)))) f (g_none rfl) rfl rfl rfl rfl rfl ?_; clear f a; intro a f
              refine s_move f (g_none rfl) rfl rfl ?_; clear f a; intro a f
              have hb127 : (decide (((idsOf l).1) = ((idsOf l).1))) = true := decide_eq_true (by rfl)
              rw [hb127] at f
              refine s_move f (g_yes f rfl rfl rfl) rfl rfl ?_; clear f a; intro a f
              refine s_move f (g_yes f rfl rfl rfl) rfl rfl ?_; clear f a; intro a f
              refine s_bin (v := .bool (decide ((((idsOf l).2 : Nat) : Int) = (((idsOf l).2 : Nat) : Int)))) f (g_yes f rfl rfl rfl) rfl rfl rfl arith_eql ?_; clear f a; intro a f
              refine s_pick (r := .bool (decide ((((idsOf l).2 : Nat) : Int) = (((idsOf l).2 : Nat) : Int)))) f (g_none rfl) rfl rfl rfl rfl rfl ?_; clear f a; intro a f
              refine s_move f (g_none rfl) rfl rfl ?_; clear f a; intro a f
              have hb128 : (decide ((((idsOf l).2 : Nat) : Int) = (((idsOf l).2 : Nat) : Int))) = true := decide_eq_true (by rfl)
              rw [hb128] at f
              refine s_move f (g_yes f rfl rfl rfl) rfl rfl ?_; clear f a; intro a f
              refine s_move f (g_yes f rfl rfl rfl) rfl rfl ?_; clear f a; intro a f
              refine s_call f (g_yes f rfl rfl rfl) rfl Try.func62 rfl rfl (ev2 f rfl rfl) (sameids_calls (p := q76) (x := (readI b m).1) (c := d77) (q := q88) (y := (readI b m).1) (d := d89) (w := _) (hr0 := (ho79.rd)) (hr1 := (ho91.rd))) ?_
              rintro _ w129 ⟨rfl, hx130⟩; refine ⟨_, rfl, ?_⟩; clear f a; intro a f
              replace ho28 := ho28.ext hx130
              replace ho34 := ho34.ext hx130
              replace ho41 := ho41.ext hx130
              replace ho49 := ho49.ext hx130
              replace ho58 := ho58.ext hx130
              replace ho68 := ho68.ext hx130
              replace ho79 := ho79.ext hx130
              replace ho91 := ho91.ext hx130
              replace hw := hw.ext hx130
              replace hE := hE.tr hx130
              clear hx130
              refine s_pick (r := .bool (decide (((readI b m).1) = ((readI b m).1)))) f (g_none rfl) rfl rfl rfl rfl rfl ?_; clear f a; intro a f
              refine s_move f (g_none rfl) rfl rfl ?_; clear f a; intro a f
              have hb131 : (decide (((readI b m).1) = ((readI b m).1))) = true := decide_eq_true (by rfl)
              rw [hb131] at f
              refine s_move f (g_yes f rfl rfl rfl) rfl rfl ?_; clear f a; intro a f
              refine s_move f (g_yes f rfl rfl rfl) rfl rfl ?_; clear f a; intro a f
              refine s_bin (v := .bool (decide ((((readI b m).2.1 : Nat) : Int) = (((readI b m).2.1 : Nat) : Int)))) f (g_yes f rfl rfl rfl) rfl rfl rfl arith_eql ?_; clear f a; intro a f
              refine s_pick (r := .bool (decide ((((readI b m).2.1 : Nat) : Int) = (((readI b m).2.1 : Nat) : Int)))) f (g_none rfl) rfl rfl rfl rfl rfl ?_; clear f a; intro a f
              refine s_move f (g_none rfl) rfl rfl ?_; clear f a; intro a f
              have hb132 : (decide ((((readI b m).2.1 : Nat) : Int) = (((readI b m).2.1 : Nat) : Int))) = true := decide_eq_true (by rfl)
              rw [hb132] at f
              refine s_move f (g_yes f rfl rfl rfl) rfl rfl ?_; clear f a; intro a f
              refine s_move f (g_yes f rfl rfl rfl) rfl rfl ?_; clear f a; intro a f
              refine s_bin (v := .bool (decide ((((readI b m).2.2 : Nat) : Int) = (((readI b m).2.2 : Nat) : Int)))) f (g_yes f rfl rfl rfl) rfl rfl rfl arith_eql ?_; clear f a; intro a f
              refine s_pick (r := .bool (decide ((((readI b m).2.2 : Nat) : Int) = (((readI b m).2.2 : Nat) : Int)))) f (g_none rfl) rfl rfl rfl rfl rfl ?_; clear f a; intro a f
              refine s_assign f (g_none rfl) rfl rfl ?_; clear f a; intro a f
              refine nil_then ?_
              refine wp_ret ?_
              refine retG (vs := [.bool (decide ((((readI b m).2.2 : Nat) : Int) = (((readI b m).2.2 : Nat) : Int)))]) f rfl ⟨rfl, trivial⟩ ?_
              exact ⟨congrArg Ending.returned ((congrArg Value.bool (decide_eq_true rfl))), hE⟩
  · skip
    have hb133 : (decide (3000 < ((b.length : Nat) : Int))) = false := decide_eq_false hc1
    rw [hb133] at f
    refine s_skip f (g_no f rfl rfl rfl) rfl ?_; clear f a; intro a f
    refine s_skip f (g_no f rfl rfl rfl) rfl ?_; clear f a; intro a f
    refine s_skip f (g_no f rfl rfl rfl) rfl ?_; clear f a; intro a f
    refine s_pick (r := .bool false) f (g_none rfl) rfl rfl rfl rfl rfl ?_; clear f a; intro a f
    refine s_move f (g_none rfl) rfl rfl ?_; clear f a; intro a f
    refine s_move f (g_yes f rfl rfl rfl) rfl rfl ?_; clear f a; intro a f
    refine t_len f (g_yes f rfl rfl rfl) rfl rfl Try.underlying32 rfl ?_; clear f a; intro a f
    refine s_bin f (g_yes f rfl rfl rfl) rfl rfl rfl rfl ?_; clear f a; intro a f
    refine s_pick (r := .bool (decide (12000 < ((b.length : Nat) : Int)))) f (g_none rfl) rfl rfl rfl rfl rfl ?_; clear f a; intro a f
    refine s_move f (g_none rfl) rfl rfl ?_; clear f a; intro a f
    by_cases hc134 : 12000 < ((b.length : Nat) : Int)
    · skip
      have hb135 : (decide (12000 < ((b.length : Nat) : Int))) = true := decide_eq_true hc134
      rw [hb135] at f
      refine s_skip f (g_no f rfl rfl rfl) rfl ?_; clear f a; intro a f
      refine s_skip f (g_no f rfl rfl rfl) rfl ?_; clear f a; intro a f
      refine s_skip f (g_no f rfl rfl rfl) rfl ?_; clear f a; intro a f
      refine s_pick (r := .bool true) f (g_none rfl) rfl rfl rfl rfl rfl ?_; clear f a; intro a f
      refine nil_then ?_
      refine c_true f rfl ?_
      refine reg_seq ?_
      refine s_assign f (g_none rfl) rfl rfl ?_; clear f a; intro a f
      refine nil_then ?_
      refine wp_ret ?_
      refine then_r ?_
      refine retG (vs := [.bool true]) f rfl ⟨rfl, trivial⟩ ?_
      exact ⟨congrArg Ending.returned (rfl), Ext.rfl'⟩
    · skip
      have hb136 : (decide (12000 < ((b.length : Nat) : Int))) = false := decide_eq_false hc134
      rw [hb136] at f
      refine s_move f (g_yes f rfl rfl rfl) rfl rfl ?_; clear f a; intro a f
      refine t_len f (g_yes f rfl rfl rfl) rfl rfl Try.underlying83 rfl ?_; clear f a; intro a f
      refine s_bin f (g_yes f rfl rfl rfl) rfl rfl rfl rfl ?_; clear f a; intro a f
      refine s_pick (r := .bool (decide (80 < ((l.length : Nat) : Int)))) f (g_none rfl) rfl rfl rfl rfl rfl ?_; clear f a; intro a f
      refine nil_then ?_
      by_cases hc137 : 80 < ((l.length : Nat) : Int)
      · skip
        have hb138 : (decide (80 < ((l.length : Nat) : Int))) = true := decide_eq_true hc137
        rw [hb138] at f
        refine c_true f rfl ?_
        refine reg_seq ?_
        refine s_assign f (g_none rfl) rfl rfl ?_; clear f a; intro a f
        refine nil_then ?_
        refine wp_ret ?_
        refine then_r ?_
        refine retG (vs := [.bool true]) f rfl ⟨rfl, trivial⟩ ?_
        exact ⟨congrArg Ending.returned (rfl), Ext.rfl'⟩
      · skip
        have hb139 : (decide (80 < ((l.length : Nat) : Int))) = false := decide_eq_false hc137
        rw [hb139] at f
        refine c_false f rfl ?_
        refine wp_skip ?_
        refine then_n ?_
        refine reg_seq ?_
        refine t_lit (E := bytesE) (l := []) (B := w.heap.size) f (g_none rfl) rfl Try.underlying32 ti5 rfl (pt0 f) (by decide) (fill_lit [] rfl rfl (by simp [Value.cells])) rfl rfl (Nat.le_refl _) ?_; clear f a; intro a w145 p140 c141 f hx143 ho142 hn144
        have hE := hx143; clear hx143
        clear hn144
        refine s_move f (g_none rfl) rfl rfl ?_; clear f a; intro a f
        refine t_append (E := bytesE) (l := []) (m := b) (lm := b) (B := w.heap.size) f (g_none rfl) rfl Try.underlying32 ti5 rfl rfl rfl ho142 (hr0.ext hE) (by first | omega | (simp; omega)) (by first | omega | (simp; omega)) (hE.size) (List.nil_append _) ?_; clear f a; intro a w151 p146 c147 f ho148 hg149 hn150
        replace hE := hE.gr hg149 (fun b e => (ho142.lt e).1)
        clear hg149
        clear ho142
        clear hn150
        refine s_assign f (g_none rfl) rfl rfl ?_; clear f a; intro a f
        refine nil_then ?_
        refine reg_seq ?_
        refine s_move f (g_none rfl) rfl rfl ?_; clear f a; intro a f
        refine s_call f (g_none rfl) rfl Try.func47 rfl rfl (ev1 f rfl) (wbytes_calls (p := p146) (b := b) (c := c147) (w := _) (hr0 := (ho148.rd))) ?_
        rintro _ w152 ⟨q153, d154, rfl, hx155, ho156⟩; refine ⟨_, rfl, ?_⟩; clear f a; intro a f
        have hs157 : ∀ b, sblk q153 = some b → sblk p146 ≠ some b := fun b e1 e2 => by have h1 := (ho156.lt e1).1; have h2 := (ho148.lt e2).2; omega
        replace ho156 := ho156.mono (hE.size)
        replace ho148 := ho148.ext hx155
        replace hE := hE.tr hx155
        clear hx155
        refine s_move f (g_none rfl) rfl rfl ?_; clear f a; intro a f
        refine s_extract (v := .slice q153 ((bytesOf b).1).length d154) f (g_none rfl) rfl rfl rfl ?_; clear f a; intro a f
        refine s_extract (v := .int .i64 (((bytesOf b).2 : Nat) : Int)) f (g_none rfl) rfl rfl rfl ?_; clear f a; intro a f
        refine s_assign f (g_none rfl) rfl rfl ?_; clear f a; intro a f
        refine s_assign f (g_none rfl) rfl rfl ?_; clear f a; intro a f
        refine nil_then ?_
        refine reg_seq ?_
        refine s_move f (g_none rfl) rfl rfl ?_; clear f a; intro a f
        refine s_call f (g_none rfl) rfl Try.func63 rfl rfl (ev1 f rfl) (rbytes_calls (p := p) (b := b) (c := c) (w := _) (hr0 := (hr0.ext hE))) ?_
        rintro _ w158 ⟨q159, d160, rfl, hx161, ho162⟩; refine ⟨_, rfl, ?_⟩; clear f a; intro a f
        have hs163 : ∀ b, sblk q159 = some b → sblk p146 ≠ some b := fun b e1 e2 => by have h1 := (ho162.lt e1).1; have h2 := (ho148.lt e2).2; omega
        have hs164 : ∀ b, sblk q159 = some b → sblk q153 ≠ some b := fun b e1 e2 => by have h1 := (ho162.lt e1).1; have h2 := (ho156.lt e2).2; omega
        replace ho162 := ho162.mono (hE.size)
        replace ho148 := ho148.ext hx161
        replace ho156 := ho156.ext hx161
        replace hE := hE.tr hx161
        clear hx161
        refine s_move f (g_none rfl) rfl rfl ?_; clear f a; intro a f
        refine s_extract (v := .slice q159 ((bytesOf b).1).length d160) f (g_none rfl) rfl rfl rfl ?_; clear f a; intro a f
        refine s_extract (v := .int .i64 (((bytesOf b).2 : Nat) : Int)) f (g_none rfl) rfl rfl rfl ?_; clear f a; intro a f
        refine s_assign f (g_none rfl) rfl rfl ?_; clear f a; intro a f
        refine s_assign f (g_none rfl) rfl rfl ?_; clear f a; intro a f
        refine nil_then ?_
        refine reg_seq ?_
        refine s_move f (g_none rfl) rfl rfl ?_; clear f a; intro a f
        refine s_move f (g_none rfl) rfl rfl ?_; clear f a; intro a f
        refine s_call f (g_none rfl) rfl Try.func48 rfl rfl (ev2 f rfl rfl) (readb_calls (p := p146) (b := b) (c := c147) (m := m) (h1 := (by omega)) (h2 := (by omega)) (hb := (by omega)) (w := _) (hr0 := (ho148.rd))) ?_
        rintro _ w165 ⟨q166, d167, rfl, hx168, ho169⟩; refine ⟨_, rfl, ?_⟩; clear f a; intro a f
        have hs170 : ∀ b, sblk q166 = some b → sblk p146 ≠ some b := fun b e1 e2 => by have h1 := (ho169.lt e1).1; have h2 := (ho148.lt e2).2; omega
        have hs171 : ∀ b, sblk q166 = some b → sblk q153 ≠ some b := fun b e1 e2 => by have h1 := (ho169.lt e1).1; have h2 := (ho156.lt e2).2; omega
        have hs172 : ∀ b, sblk q166 = some b → sblk q159 ≠ some b := fun b e1 e2 => by have h1 := (ho169.lt e1).1; have h2 := (ho162.lt e2).2; omega
        replace ho169 := ho169.mono (hE.size)
        replace ho148 := ho148.ext hx168
        replace ho156 := ho156.ext hx168
        replace ho162 := ho162.ext hx168
        replace hE := hE.tr hx168
        clear hx168
        refine s_move f (g_none rfl) rfl rfl ?_; clear f a; intro a f
        refine s_extract (v := .slice q166 ((partL b m 1).1).length d167) f (g_none rfl) rfl rfl rfl ?_; clear f a; intro a f
        refine s_extract (v := .int .i64 (((partL b m 1).2.1 : Nat) : Int)) f (g_none rfl) rfl rfl rfl ?_; clear f a; intro a f
        refine s_extract (v := .int .i64 (((partL b m 1).2.2 : Nat) : Int)) f (g_none rfl) rfl rfl rfl ?_; clear f a; intro a f
        refine s_assign f (g_none rfl) rfl rfl ?_; clear f a; intro a f
        refine s_assign f (g_none rfl) rfl rfl ?_; clear f a; intro a f
        refine s_assign f (g_none rfl) rfl rfl ?_; clear f a; intro a f
        refine nil_then ?_
        refine reg_seq ?_
        refine s_move f (g_none rfl) rfl rfl ?_; clear f a; intro a f
        refine s_move f (g_none rfl) rfl rfl ?_; clear f a; intro a f
        refine s_call f (g_none rfl) rfl Try.func64 rfl rfl (ev2 f rfl rfl) (rreadb_calls (p := p) (b := b) (c := c) (m := m) (h1 := (by omega)) (h2 := (by omega)) (hb := (by omega)) (w := _) (hr0 := (hr0.ext hE))) ?_
        rintro _ w173 ⟨q174, d175, rfl, hx176, ho177⟩; refine ⟨_, rfl, ?_⟩; clear f a; intro a f
        have hs178 : ∀ b, sblk q174 = some b → sblk p146 ≠ some b := fun b e1 e2 => by have h1 := (ho177.lt e1).1; have h2 := (ho148.lt e2).2; omega
        have hs179 : ∀ b, sblk q174 = some b → sblk q153 ≠ some b := fun b e1 e2 => by have h1 := (ho177.lt e1).1; have h2 := (ho156.lt e2).2; omega
        have hs180 : ∀ b, sblk q174 = some b → sblk q159 ≠ some b := fun b e1 e2 => by have h1 := (ho177.lt e1).1; have h2 := (ho162.lt e2).2; omega
        have hs181 : ∀ b, sblk q174 = some b → sblk q166 ≠ some b := fun b e1 e2 => by have h1 := (ho177.lt e1).1; have h2 := (ho169.lt e2).2; omega
        replace ho177 := ho177.mono (hE.size)
        replace ho148 := ho148.ext hx176
        replace ho156 := ho156.ext hx176
        replace ho162 := ho162.ext hx176
        replace ho169 := ho169.ext hx176
        replace hE := hE.tr hx176
        clear hx176
        refine s_move f (g_none rfl) rfl rfl ?_; clear f a; intro a f
        refine s_extract (v := .slice q174 ((partL b m 1).1).length d175) f (g_none rfl) rfl rfl rfl ?_; clear f a; intro a f
        refine s_extract (v := .int .i64 (((partL b m 1).2.1 : Nat) : Int)) f (g_none rfl) rfl rfl rfl ?_; clear f a; intro a f
        refine s_extract (v := .int .i64 (((partL b m 1).2.2 : Nat) : Int)) f (g_none rfl) rfl rfl rfl ?_; clear f a; intro a f
        refine s_assign f (g_none rfl) rfl rfl ?_; clear f a; intro a f
        refine s_assign f (g_none rfl) rfl rfl ?_; clear f a; intro a f
        refine s_assign f (g_none rfl) rfl rfl ?_; clear f a; intro a f
        refine nil_then ?_
        refine reg_seq ?_
        refine s_move f (g_none rfl) rfl rfl ?_; clear f a; intro a f
        refine s_call f (g_none rfl) rfl Try.func59 rfl rfl (ev1 f rfl) (wids_calls (p := q) (l := l) (c := d) (w := _) (hr0 := (hr1.ext hE))) ?_
        rintro _ w182 ⟨q183, d184, rfl, hx185, ho186⟩; refine ⟨_, rfl, ?_⟩; clear f a; intro a f
        have hs187 : ∀ b, sblk q183 = some b → sblk p146 ≠ some b := fun b e1 e2 => by have h1 := (ho186.lt e1).1; have h2 := (ho148.lt e2).2; omega
        have hs188 : ∀ b, sblk q183 = some b → sblk q153 ≠ some b := fun b e1 e2 => by have h1 := (ho186.lt e1).1; have h2 := (ho156.lt e2).2; omega
        have hs189 : ∀ b, sblk q183 = some b → sblk q159 ≠ some b := fun b e1 e2 => by have h1 := (ho186.lt e1).1; have h2 := (ho162.lt e2).2; omega
        have hs190 : ∀ b, sblk q183 = some b → sblk q166 ≠ some b := fun b e1 e2 => by have h1 := (ho186.lt e1).1; have h2 := (ho169.lt e2).2; omega
        have hs191 : ∀ b, sblk q183 = some b → sblk q174 ≠ some b := fun b e1 e2 => by have h1 := (ho186.lt e1).1; have h2 := (ho177.lt e2).2; omega
        replace ho186 := ho186.mono (hE.size)
        replace ho148 := ho148.ext hx185
        replace ho156 := ho156.ext hx185
        replace ho162 := ho162.ext hx185
        replace ho169 := ho169.ext hx185
        replace ho177 := ho177.ext hx185
        replace hE := hE.tr hx185
        clear hx185
        refine s_move f (g_none rfl) rfl rfl ?_; clear f a; intro a f
        refine s_extract (v := .slice q183 ((idsOf l).1).length d184) f (g_none rfl) rfl rfl rfl ?_; clear f a; intro a f
        refine s_extract (v := .int .i64 (((idsOf l).2 : Nat) : Int)) f (g_none rfl) rfl rfl rfl ?_; clear f a; intro a f
        refine s_assign f (g_none rfl) rfl rfl ?_; clear f a; intro a f
        refine s_assign f (g_none rfl) rfl rfl ?_; clear f a; intro a f
        refine nil_then ?_
        refine reg_seq ?_
        refine s_move f (g_none rfl) rfl rfl ?_; clear f a; intro a f
        refine s_call f (g_none rfl) rfl Try.func65 rfl rfl (ev1 f rfl) (ridsr_calls (p := q) (l := l) (c := d) (w := _) (hr0 := (hr1.ext hE))) ?_
        rintro _ w192 ⟨q193, d194, rfl, hx195, ho196⟩; refine ⟨_, rfl, ?_⟩; clear f a; intro a f
        have hs197 : ∀ b, sblk q193 = some b → sblk p146 ≠ some b := fun b e1 e2 => by have h1 := (ho196.lt e1).1; have h2 := (ho148.lt e2).2; omega
        have hs198 : ∀ b, sblk q193 = some b → sblk q153 ≠ some b := fun b e1 e2 => by have h1 := (ho196.lt e1).1; have h2 := (ho156.lt e2).2; omega
        have hs199 : ∀ b, sblk q193 = some b → sblk q159 ≠ some b := fun b e1 e2 => by have h1 := (ho196.lt e1).1; have h2 := (ho162.lt e2).2; omega
        have hs200 : ∀ b, sblk q193 = some b → sblk q166 ≠ some b := fun b e1 e2 => by have h1 := (ho196.lt e1).1; have h2 := (ho169.lt e2).2; omega
        have hs201 : ∀ b, sblk q193 = some b → sblk q174 ≠ some b := fun b e1 e2 => by have h1 := (ho196.lt e1).1; have h2 := (ho177.lt e2).2; omega
        have hs202 : ∀ b, sblk q193 = some b → sblk q183 ≠ some b := fun b e1 e2 => by have h1 := (ho196.lt e1).1; have h2 := (ho186.lt e2).2; omega
        replace ho196 := ho196.mono (hE.size)
        replace ho148 := ho148.ext hx195
        replace ho156 := ho156.ext hx195
        replace ho162 := ho162.ext hx195
        replace ho169 := ho169.ext hx195
        replace ho177 := ho177.ext hx195
        replace ho186 := ho186.ext hx195
        replace hE := hE.tr hx195
        clear hx195
        refine s_move f (g_none rfl) rfl rfl ?_; clear f a; intro a f
        refine s_extract (v := .slice q193 ((idsOf l).1).length d194) f (g_none rfl) rfl rfl rfl ?_; clear f a; intro a f
        refine s_extract (v := .int .i64 (((idsOf l).2 : Nat) : Int)) f (g_none rfl) rfl rfl rfl ?_; clear f a; intro a f
        refine s_assign f (g_none rfl) rfl rfl ?_; clear f a; intro a f
        refine s_assign f (g_none rfl) rfl rfl ?_; clear f a; intro a f
        refine nil_then ?_
        refine reg_seq ?_
        refine s_move f (g_none rfl) rfl rfl ?_; clear f a; intro a f
        refine s_move f (g_none rfl) rfl rfl ?_; clear f a; intro a f
        refine s_call f (g_none rfl) rfl Try.func61 rfl rfl (ev2 f rfl rfl) (rids_calls (p := p146) (b := b) (c := c147) (m := m) (h1 := (by omega)) (h2 := (by omega)) (hb := (by omega)) (w := _) (hr0 := (ho148.rd))) ?_
        rintro _ w203 ⟨q204, d205, rfl, hx206, ho207⟩; refine ⟨_, rfl, ?_⟩; clear f a; intro a f
        have hs208 : ∀ b, sblk q204 = some b → sblk p146 ≠ some b := fun b e1 e2 => by have h1 := (ho207.lt e1).1; have h2 := (ho148.lt e2).2; omega
        have hs209 : ∀ b, sblk q204 = some b → sblk q153 ≠ some b := fun b e1 e2 => by have h1 := (ho207.lt e1).1; have h2 := (ho156.lt e2).2; omega
        have hs210 : ∀ b, sblk q204 = some b → sblk q159 ≠ some b := fun b e1 e2 => by have h1 := (ho207.lt e1).1; have h2 := (ho162.lt e2).2; omega
        have hs211 : ∀ b, sblk q204 = some b → sblk q166 ≠ some b := fun b e1 e2 => by have h1 := (ho207.lt e1).1; have h2 := (ho169.lt e2).2; omega
        have hs212 : ∀ b, sblk q204 = some b → sblk q174 ≠ some b := fun b e1 e2 => by have h1 := (ho207.lt e1).1; have h2 := (ho177.lt e2).2; omega
        have hs213 : ∀ b, sblk q204 = some b → sblk q183 ≠ some b := fun b e1 e2 => by have h1 := (ho207.lt e1).1; have h2 := (ho186.lt e2).2; omega
        have hs214 : ∀ b, sblk q204 = some b → sblk q193 ≠ some b := fun b e1 e2 => by have h1 := (ho207.lt e1).1; have h2 := (ho196.lt e2).2; omega
        replace ho207 := ho207.mono (hE.size)
        replace ho148 := ho148.ext hx206
        replace ho156 := ho156.ext hx206
        replace ho162 := ho162.ext hx206
        replace ho169 := ho169.ext hx206
        replace ho177 := ho177.ext hx206
        replace ho186 := ho186.ext hx206
        replace ho196 := ho196.ext hx206
        replace hE := hE.tr hx206
        clear hx206
        refine s_move f (g_none rfl) rfl rfl ?_; clear f a; intro a f
        refine s_extract (v := .slice q204 ((readI b m).1).length d205) f (g_none rfl) rfl rfl rfl ?_; clear f a; intro a f
        refine s_extract (v := .int .i64 (((readI b m).2.1 : Nat) : Int)) f (g_none rfl) rfl rfl rfl ?_; clear f a; intro a f
        refine s_extract (v := .int .i64 (((readI b m).2.2 : Nat) : Int)) f (g_none rfl) rfl rfl rfl ?_; clear f a; intro a f
        refine s_assign f (g_none rfl) rfl rfl ?_; clear f a; intro a f
        refine s_assign f (g_none rfl) rfl rfl ?_; clear f a; intro a f
        refine s_assign f (g_none rfl) rfl rfl ?_; clear f a; intro a f
        refine nil_then ?_
        refine reg_seq ?_
        refine s_move f (g_none rfl) rfl rfl ?_; clear f a; intro a f
        refine s_move f (g_none rfl) rfl rfl ?_; clear f a; intro a f
        refine s_call f (g_none rfl) rfl Try.func66 rfl rfl (ev2 f rfl rfl) (rrids_calls (p := p) (b := b) (c := c) (m := m) (h1 := (by omega)) (h2 := (by omega)) (hb := (by omega)) (w := _) (hr0 := (hr0.ext hE))) ?_
        rintro _ w215 ⟨q216, d217, rfl, hx218, ho219⟩; refine ⟨_, rfl, ?_⟩; clear f a; intro a f
        have hs220 : ∀ b, sblk q216 = some b → sblk p146 ≠ some b := fun b e1 e2 => by have h1 := (ho219.lt e1).1; have h2 := (ho148.lt e2).2; omega
        have hs221 : ∀ b, sblk q216 = some b → sblk q153 ≠ some b := fun b e1 e2 => by have h1 := (ho219.lt e1).1; have h2 := (ho156.lt e2).2; omega
        have hs222 : ∀ b, sblk q216 = some b → sblk q159 ≠ some b := fun b e1 e2 => by have h1 := (ho219.lt e1).1; have h2 := (ho162.lt e2).2; omega
        have hs223 : ∀ b, sblk q216 = some b → sblk q166 ≠ some b := fun b e1 e2 => by have h1 := (ho219.lt e1).1; have h2 := (ho169.lt e2).2; omega
        have hs224 : ∀ b, sblk q216 = some b → sblk q174 ≠ some b := fun b e1 e2 => by have h1 := (ho219.lt e1).1; have h2 := (ho177.lt e2).2; omega
        have hs225 : ∀ b, sblk q216 = some b → sblk q183 ≠ some b := fun b e1 e2 => by have h1 := (ho219.lt e1).1; have h2 := (ho186.lt e2).2; omega
        have hs226 : ∀ b, sblk q216 = some b → sblk q193 ≠ some b := fun b e1 e2 => by have h1 := (ho219.lt e1).1; have h2 := (ho196.lt e2).2; omega
        have hs227 : ∀ b, sblk q216 = some b → sblk q204 ≠ some b := fun b e1 e2 => by have h1 := (ho219.lt e1).1; have h2 := (ho207.lt e2).2; omega
        replace ho219 := ho219.mono (hE.size)
        replace ho148 := ho148.ext hx218
        replace ho156 := ho156.ext hx218
        replace ho162 := ho162.ext hx218
        replace ho169 := ho169.ext hx218
        replace ho177 := ho177.ext hx218
        replace ho186 := ho186.ext hx218
        replace ho196 := ho196.ext hx218
        replace ho207 := ho207.ext hx218
        replace hE := hE.tr hx218
        clear hx218
        refine s_move f (g_none rfl) rfl rfl ?_; clear f a; intro a f
        refine s_extract (v := .slice q216 ((readI b m).1).length d217) f (g_none rfl) rfl rfl rfl ?_; clear f a; intro a f
        refine s_extract (v := .int .i64 (((readI b m).2.1 : Nat) : Int)) f (g_none rfl) rfl rfl rfl ?_; clear f a; intro a f
        refine s_extract (v := .int .i64 (((readI b m).2.2 : Nat) : Int)) f (g_none rfl) rfl rfl rfl ?_; clear f a; intro a f
        refine s_assign f (g_none rfl) rfl rfl ?_; clear f a; intro a f
        refine s_assign f (g_none rfl) rfl rfl ?_; clear f a; intro a f
        refine s_assign f (g_none rfl) rfl rfl ?_; clear f a; intro a f
        refine nil_then ?_
        refine wp_seq ?_
        refine reg_seq ?_
        refine s_assign f (g_none rfl) rfl rfl ?_; clear f a; intro a f
        refine nil_then ?_
        refine wp_block ?_
        refine loop_ghost (α := Nat × List UInt8) (fun gg a wr => let ⟨i, L⟩ := gg; Frm 158 [(0, .slice p b.length c), (1, .slice q l.length d), (2, .int .i64 m), (6, .bool false), (7, .slice p146 L.length c147), (8, .slice q153 ((bytesOf b).1).length d154), (9, .int .i64 (((bytesOf b).2 : Nat) : Int)), (10, .slice q159 ((bytesOf b).1).length d160), (11, .int .i64 (((bytesOf b).2 : Nat) : Int)), (12, .slice q166 ((partL b m 1).1).length d167), (13, .int .i64 (((partL b m 1).2.1 : Nat) : Int)), (14, .int .i64 (((partL b m 1).2.2 : Nat) : Int)), (15, .slice q174 ((partL b m 1).1).length d175), (16, .int .i64 (((partL b m 1).2.1 : Nat) : Int)), (17, .int .i64 (((partL b m 1).2.2 : Nat) : Int)), (18, .slice q183 ((idsOf l).1).length d184), (19, .int .i64 (((idsOf l).2 : Nat) : Int)), (20, .slice q193 ((idsOf l).1).length d194), (21, .int .i64 (((idsOf l).2 : Nat) : Int)), (22, .slice q204 ((readI b m).1).length d205), (23, .int .i64 (((readI b m).2.1 : Nat) : Int)), (24, .int .i64 (((readI b m).2.2 : Nat) : Int)), (25, .slice q216 ((readI b m).1).length d217), (26, .int .i64 (((readI b m).2.1 : Nat) : Int)), (27, .int .i64 (((readI b m).2.2 : Nat) : Int)), (28, .int .i64 ((i : Nat) : Int))] a ∧ Ext w wr ∧ OwL bytesE wr w.heap.size 5 q153 d154 ((bytesOf b).1) ∧ OwL bytesE wr w.heap.size 5 q159 d160 ((bytesOf b).1) ∧ OwL bytesE wr w.heap.size 5 q166 d167 ((partL b m 1).1) ∧ OwL bytesE wr w.heap.size 5 q174 d175 ((partL b m 1).1) ∧ OwL bytesE wr w.heap.size 5 q183 d184 ((idsOf l).1) ∧ OwL bytesE wr w.heap.size 5 q193 d194 ((idsOf l).1) ∧ OwL idsE wr w.heap.size 102 q204 d205 ((readI b m).1) ∧ OwL idsE wr w.heap.size 102 q216 d217 ((readI b m).1) ∧ OwL bytesE wr w.heap.size 5 p146 c147 L ∧ (∀ b, sblk p146 = some b → sblk q153 ≠ some b) ∧ (∀ b, sblk p146 = some b → sblk q159 ≠ some b) ∧ (∀ b, sblk p146 = some b → sblk q166 ≠ some b) ∧ (∀ b, sblk p146 = some b → sblk q174 ≠ some b) ∧ (∀ b, sblk p146 = some b → sblk q183 ≠ some b) ∧ (∀ b, sblk p146 = some b → sblk q193 ≠ some b) ∧ (∀ b, sblk p146 = some b → sblk q204 ≠ some b) ∧ (∀ b, sblk p146 = some b → sblk q216 ≠ some b) ∧ i ≤ L.length ∧ L.length ≤ 12000) (fun gg => let ⟨i, L⟩ := gg; L.length - i) (0, b) ?_ ?_
        · skip
          exact ⟨(Frm.pick f (Frm.pick f (Frm.pick f (Frm.pick f (Frm.pick f (Frm.pick f (Frm.pick f (Frm.pick f (Frm.pick f (Frm.pick f (Frm.pick f (Frm.pick f (Frm.pick f (Frm.pick f (Frm.pick f (Frm.pick f (Frm.pick f (Frm.pick f (Frm.pick f (Frm.pick f (Frm.pick f (Frm.pick f (Frm.pick f (Frm.pick f (Frm.pick f (Frm.pick f f.nil rfl) rfl) rfl) rfl) rfl) rfl) rfl) rfl) rfl) rfl) rfl) rfl) rfl) rfl) rfl) rfl) rfl) rfl) rfl) rfl) rfl) rfl) rfl) rfl) rfl) rfl), hE, ho156, ho162, ho169, ho177, ho186, ho196, ho207, ho219, ho148, (by intro b e1 e2; first | exact hs157 b e1 e2 | exact hs157 b e2 e1), (by intro b e1 e2; first | exact hs163 b e1 e2 | exact hs163 b e2 e1), (by intro b e1 e2; first | exact hs170 b e1 e2 | exact hs170 b e2 e1), (by intro b e1 e2; first | exact hs178 b e1 e2 | exact hs178 b e2 e1), (by intro b e1 e2; first | exact hs187 b e1 e2 | exact hs187 b e2 e1), (by intro b e1 e2; first | exact hs197 b e1 e2 | exact hs197 b e2 e1), (by intro b e1 e2; first | exact hs208 b e1 e2 | exact hs208 b e2 e1), (by intro b e1 e2; first | exact hs220 b e1 e2 | exact hs220 b e2 e1), (by omega), (by omega)⟩
        · skip
          clear f a
          clear ho148
          clear ho156
          clear ho162
          clear ho169
          clear ho177
          clear ho186
          clear ho196
          clear ho207
          clear ho219
          clear hE
          rintro ⟨i, L⟩ a wr ⟨f, hE, ho156, ho162, ho169, ho177, ho186, ho196, ho207, ho219, hw, hs229, hs230, hs231, hs232, hs233, hs234, hs235, hs236, hi, hL⟩
          refine wp_seq ?_
          refine reg_seq ?_
          refine s_move f (g_none rfl) rfl rfl ?_; clear f a; intro a f
          refine s_move f (g_none rfl) rfl rfl ?_; clear f a; intro a f
          refine t_len f (g_none rfl) rfl rfl Try.underlying32 rfl ?_; clear f a; intro a f
          refine s_bin f (g_none rfl) rfl rfl rfl rfl ?_; clear f a; intro a f
          refine nil_then ?_
          by_cases hc237 : ((i : Nat) : Int) < ((L.length : Nat) : Int)
          · skip
            have hb238 : (decide (((i : Nat) : Int) < ((L.length : Nat) : Int))) = true := decide_eq_true hc237
            rw [hb238] at f
            refine c_true f rfl ?_
            refine wp_skip ?_
            refine then_n ?_
            refine wp_seq ?_
            refine wp_block ?_
            refine wp_region_lit ?_
            refine s_move f (g_none rfl) rfl rfl ?_; clear f a; intro a f
            refine s_move f (g_none rfl) rfl rfl ?_; clear f a; intro a f
            refine t_indexAddr (j := i) (E := bytesE) f (g_none rfl) rfl Try.underlying32 ti5 rfl (hw.rd) rfl rfl rfl (by omega) ?_; clear f a; intro a f
            refine t_load (j := i) (e := L.getD i 0) (E := bytesE) f (g_none rfl) rfl sc5 rfl (hw.rd) rfl (getD_some (by omega)) rfl ?_; clear f a; intro a f
            refine s_bin f (g_none rfl) rfl rfl rfl (arith_add (r := (((UInt8.ofNat ((L.getD i 0).toNat + 1)).toNat : Nat) : Int)) (wrap_u8_ofNat _)) ?_; clear f a; intro a f
            refine t_indexAddr (j := i) (E := bytesE) f (g_none rfl) rfl Try.underlying32 ti5 rfl (hw.rd) rfl rfl rfl (by omega) ?_; clear f a; intro a f
            refine t_store (j := i) (e := UInt8.ofNat ((L.getD i 0).toNat + 1)) (E := bytesE) (l' := L.set i (UInt8.ofNat ((L.getD i 0).toNat + 1))) f (g_none rfl) ti5 rfl rfl rfl hw rfl (by omega) rfl ?_; intro w239 hg240 ho241 hl242
            replace ho156 := ho156.gr' hg240 (by intro b e e2; first | exact hs229 b e e2 | exact hs229 b e2 e)
            replace ho162 := ho162.gr' hg240 (by intro b e e2; first | exact hs230 b e e2 | exact hs230 b e2 e)
            replace ho169 := ho169.gr' hg240 (by intro b e e2; first | exact hs231 b e e2 | exact hs231 b e2 e)
            replace ho177 := ho177.gr' hg240 (by intro b e e2; first | exact hs232 b e e2 | exact hs232 b e2 e)
            replace ho186 := ho186.gr' hg240 (by intro b e e2; first | exact hs233 b e e2 | exact hs233 b e2 e)
            replace ho196 := ho196.gr' hg240 (by intro b e e2; first | exact hs234 b e e2 | exact hs234 b e2 e)
            replace ho207 := ho207.gr' hg240 (by intro b e e2; first | exact hs235 b e e2 | exact hs235 b e2 e)
            replace ho219 := ho219.gr' hg240 (by intro b e e2; first | exact hs236 b e e2 | exact hs236 b e2 e)
            replace hE := hE.gr hg240 (fun b e => (hw.lt e).1)
            clear hg240
            clear hw
            rw [← hl242] at f
            clear hl242
            refine wpList_nil ?_
            refine blk_n ?_
            refine then_n ?_
            refine wp_region_lit ?_
            refine s_move f (g_none rfl) rfl rfl ?_; clear f a; intro a f
            refine s_bin f (g_none rfl) rfl rfl rfl (arith_add (r := ((i + 1 : Nat) : Int)) (wrap_i64 (by omega) (by omega))) ?_; clear f a; intro a f
            refine s_assign f (g_none rfl) rfl rfl ?_; clear f a; intro a f
            refine wpList_nil ?_
            refine then_n ?_
            refine ⟨(i + 1, L.set i (UInt8.ofNat ((L.getD i 0).toNat + 1))), ?_, ?_⟩
            · skip
              exact ⟨(Frm.pick f (Frm.pick f (Frm.pick f (Frm.pick f (Frm.pick f (Frm.pick f (Frm.pick f (Frm.pick f (Frm.pick f (Frm.pick f (Frm.pick f (Frm.pick f (Frm.pick f (Frm.pick f (Frm.pick f (Frm.pick f (Frm.pick f (Frm.pick f (Frm.pick f (Frm.pick f (Frm.pick f (Frm.pick f (Frm.pick f (Frm.pick f (Frm.pick f (Frm.pick f f.nil rfl) rfl) rfl) rfl) rfl) rfl) rfl) rfl) rfl) rfl) rfl) rfl) rfl) rfl) rfl) rfl) rfl) rfl) rfl) rfl) rfl) rfl) rfl) rfl) rfl) rfl), hE, ho156, ho162, ho169, ho177, ho186, ho196, ho207, ho219, ho241, (by intro b e1 e2; first | exact hs229 b e1 e2 | exact hs229 b e2 e1), (by intro b e1 e2; first | exact hs230 b e1 e2 | exact hs230 b e2 e1), (by intro b e1 e2; first | exact hs231 b e1 e2 | exact hs231 b e2 e1), (by intro b e1 e2; first | exact hs232 b e1 e2 | exact hs232 b e2 e1), (by intro b e1 e2; first | exact hs233 b e1 e2 | exact hs233 b e2 e1), (by intro b e1 e2; first | exact hs234 b e1 e2 | exact hs234 b e2 e1), (by intro b e1 e2; first | exact hs235 b e1 e2 | exact hs235 b e2 e1), (by intro b e1 e2; first | exact hs236 b e1 e2 | exact hs236 b e2 e1), (by simp; omega), (by simp; omega)⟩
            · show (L.set i (UInt8.ofNat ((L.getD i 0).toNat + 1))).length - (i + 1) < L.length - i; simp; omega
          · skip
            have hb243 : (decide (((i : Nat) : Int) < ((L.length : Nat) : Int))) = false := decide_eq_false hc237
            rw [hb243] at f
            refine c_false f rfl ?_
            refine wp_exit ?_
            refine then_e ?_
            refine then_e ?_
            refine blk_e ?_
            refine then_n ?_
            refine reg_seq ?_
            refine s_move f (g_none rfl) rfl rfl ?_; clear f a; intro a f
            refine s_move f (g_none rfl) rfl rfl ?_; clear f a; intro a f
            refine s_call f (g_none rfl) rfl Try.func30 rfl rfl (ev2 f rfl rfl) (same_calls (p := q153) (x := (bytesOf b).1) (c := d154) (q := q159) (y := (bytesOf b).1) (d := d160) (w := _) (hr0 := (ho156.rd)) (hr1 := (ho162.rd))) ?_
            rintro _ w244 ⟨rfl, hx245⟩; refine ⟨_, rfl, ?_⟩; clear f a; intro a f
            replace ho156 := ho156.ext hx245
            replace ho162 := ho162.ext hx245
            replace ho169 := ho169.ext hx245
            replace ho177 := ho177.ext hx245
            replace ho186 := ho186.ext hx245
            replace ho196 := ho196.ext hx245
            replace ho207 := ho207.ext hx245
            replace ho219 := ho219.ext hx245
            replace hw := hw.ext hx245
            replace hE := hE.tr hx245
            clear hx245
            refine s_move f (g_none rfl) rfl rfl ?_; clear f a; intro a f
            have hb246 : (decide (((bytesOf b).1) = ((bytesOf b).1))) = true := decide_eq_true (by rfl)
            rw [hb246] at f
            refine s_move f (g_yes f rfl rfl rfl) rfl rfl ?_; clear f a; intro a f
            refine s_move f (g_yes f rfl rfl rfl) rfl rfl ?_; clear f a; intro a f
            refine s_bin (v := .bool (decide ((((bytesOf b).2 : Nat) : Int) = (((bytesOf b).2 : Nat) : Int)))) f (g_yes f rfl rfl rfl) rfl rfl rfl arith_eql ?_; clear f a; intro a f
            refine s_pick (r := .bool (decide ((((bytesOf b).2 : Nat) : Int) = (((bytesOf b).2 : Nat) : Int)))) f (g_none rfl) rfl rfl rfl rfl rfl ?_; clear f a; intro a f
            refine s_move f (g_none rfl) rfl rfl ?_; clear f a; intro a f
            have hb247 : (decide ((((bytesOf b).2 : Nat) : Int) = (((bytesOf b).2 : Nat) : Int))) = true := decide_eq_true (by rfl)
            rw [hb247] at f
            refine s_move f (g_yes f rfl rfl rfl) rfl rfl ?_; clear f a; intro a f
            refine s_move f (g_yes f rfl rfl rfl) rfl rfl ?_; clear f a; intro a f
            refine s_call f (g_yes f rfl rfl rfl) rfl Try.func30 rfl rfl (ev2 f rfl rfl) (same_calls (p := q166) (x := (partL b m 1).1) (c := d167) (q := q174) (y := (partL b m 1).1) (d := d175) (w := _) (hr0 := (ho169.rd)) (hr1 := (ho177.rd))) ?_
            rintro _ w248 ⟨rfl, hx249⟩; refine ⟨_, rfl, ?_⟩; clear f a; intro a f
            replace ho156 := ho156.ext hx249
            replace ho162 := ho162.ext hx249
            replace ho169 := ho169.ext hx249
            replace ho177 := ho177.ext hx249
            replace ho186 := ho186.ext hx249
            replace ho196 := ho196.ext hx249
            replace ho207 := ho207.ext hx249
            replace ho219 := ho219.ext hx249
            replace hw := hw.ext hx249
            replace hE := hE.tr hx249
            clear hx249
            refine s_pick (r := .bool (decide (((partL b m 1).1) = ((partL b m 1).1)))) f (g_none rfl) rfl rfl rfl rfl rfl ?_; clear f a; intro a f
            refine s_move f (g_none rfl) rfl rfl ?_; clear f a; intro a f
            have hb250 : (decide (((partL b m 1).1) = ((partL b m 1).1))) = true := decide_eq_true (by rfl)
            rw [hb250] at f
            refine s_move f (g_yes f rfl rfl rfl) rfl rfl ?_; clear f a; intro a f
            refine s_move f (g_yes f rfl rfl rfl) rfl rfl ?_; clear f a; intro a f
            refine s_bin (v := .bool (decide ((((partL b m 1).2.1 : Nat) : Int) = (((partL b m 1).2.1 : Nat) : Int)))) f (g_yes f rfl rfl rfl) rfl rfl rfl arith_eql ?_; clear f a; intro a f
            refine s_pick (r := .bool (decide ((((partL b m 1).2.1 : Nat) : Int) = (((partL b m 1).2.1 : Nat) : Int)))) f (g_none rfl) rfl rfl rfl rfl rfl ?_; clear f a; intro a f
            refine s_move f (g_none rfl) rfl rfl ?_; clear f a; intro a f
            have hb251 : (decide ((((partL b m 1).2.1 : Nat) : Int) = (((partL b m 1).2.1 : Nat) : Int))) = true := decide_eq_true (by rfl)
            rw [hb251] at f
            refine s_move f (g_yes f rfl rfl rfl) rfl rfl ?_; clear f a; intro a f
            refine s_move f (g_yes f rfl rfl rfl) rfl rfl ?_; clear f a; intro a f
            refine s_bin (v := .bool (decide ((((partL b m 1).2.2 : Nat) : Int) = (((partL b m 1).2.2 : Nat) : Int)))) f (g_yes f rfl rfl rfl) rfl rfl rfl arith_eql ?_; clear f a; intro a f
            refine s_pick (r := .bool (decide ((((partL b m 1).2.2 : Nat) : Int) = (((partL b m 1).2.2 : Nat) : Int)))) f (g_none rfl) rfl rfl rfl rfl rfl ?_; clear f a; intro a f
            refine s_move f (g_none rfl) rfl rfl ?_; clear f a; intro a f
            have hb252 : (decide ((((partL b m 1).2.2 : Nat) : Int) = (((partL b m 1).2.2 : Nat) : Int))) = true := decide_eq_true (by rfl)
            rw [hb252] at f
            refine s_move f (g_yes f rfl rfl rfl) rfl rfl ?_; clear f a; intro a f
            refine s_move f (g_yes f rfl rfl rfl) rfl rfl ?_; clear f a; intro a f
            refine s_call f (g_yes f rfl rfl rfl) rfl Try.func30 rfl rfl (ev2 f rfl rfl) (same_calls (p := q183) (x := (idsOf l).1) (c := d184) (q := q193) (y := (idsOf l).1) (d := d194) (w := _) (hr0 := (ho186.rd)) (hr1 := (ho196.rd))) ?_
            rintro _ w253 ⟨rfl, hx254⟩; refine ⟨_, rfl, ?_⟩; clear f a; intro a f
            replace ho156 := ho156.ext hx254
            replace ho162 := ho162.ext hx254
            replace ho169 := ho169.ext hx254
            replace ho177 := ho177.ext hx254
            replace ho186 := ho186.ext hx254
            replace ho196 := ho196.ext hx254
            replace ho207 := ho207.ext hx254
            replace ho219 := ho219.ext hx254
            replace hw := hw.ext hx254
            replace hE := hE.tr hx254
            clear hx254
            refine s_pick (r := .bool (decide (((idsOf l).1) = ((idsOf l).1)))) f (g_none rfl) rfl rfl rfl rfl rfl ?_; clear f a; intro a f
            refine s_move f (g_none rfl) rfl rfl ?_; clear f a; intro a f
            have hb255 : (decide (((idsOf l).1) = ((idsOf l).1))) = true := decide_eq_true (by rfl)
            rw [hb255] at f
            refine s_move f (g_yes f rfl rfl rfl) rfl rfl ?_; clear f a; intro a f
            refine s_move f (g_yes f rfl rfl rfl) rfl rfl ?_; clear f a; intro a f
            refine s_bin (v := .bool (decide ((((idsOf l).2 : Nat) : Int) = (((idsOf l).2 : Nat) : Int)))) f (g_yes f rfl rfl rfl) rfl rfl rfl arith_eql ?_; clear f a; intro a f
            refine s_pick (r := .bool (decide ((((idsOf l).2 : Nat) : Int) = (((idsOf l).2 : Nat) : Int)))) f (g_none rfl) rfl rfl rfl rfl rfl ?_; clear f a; intro a f
            refine s_move f (g_none rfl) rfl rfl ?_; clear f a; intro a f
            have hb256 : (decide ((((idsOf l).2 : Nat) : Int) = (((idsOf l).2 : Nat) : Int))) = true := decide_eq_true (by rfl)
            rw [hb256] at f
            refine s_move f (g_yes f rfl rfl rfl) rfl rfl ?_; clear f a; intro a f
            refine s_move f (g_yes f rfl rfl rfl) rfl rfl ?_; clear f a; intro a f
            refine s_call f (g_yes f rfl rfl rfl) rfl Try.func62 rfl rfl (ev2 f rfl rfl) (sameids_calls (p := q204) (x := (readI b m).1) (c := d205) (q := q216) (y := (readI b m).1) (d := d217) (w := _) (hr0 := (ho207.rd)) (hr1 := (ho219.rd))) ?_
            rintro _ w257 ⟨rfl, hx258⟩; refine ⟨_, rfl, ?_⟩; clear f a; intro a f
            replace ho156 := ho156.ext hx258
            replace ho162 := ho162.ext hx258
            replace ho169 := ho169.ext hx258
            replace ho177 := ho177.ext hx258
            replace ho186 := ho186.ext hx258
            replace ho196 := ho196.ext hx258
            replace ho207 := ho207.ext hx258
            replace ho219 := ho219.ext hx258
            replace hw := hw.ext hx258
            replace hE := hE.tr hx258
            clear hx258
            refine s_pick (r := .bool (decide (((readI b m).1) = ((readI b m).1)))) f (g_none rfl) rfl rfl rfl rfl rfl ?_; clear f a; intro a f
            refine s_move f (g_none rfl) rfl rfl ?_; clear f a; intro a f
            have hb259 : (decide (((readI b m).1) = ((readI b m).1))) = true := decide_eq_true (by rfl)
            rw [hb259] at f
            refine s_move f (g_yes f rfl rfl rfl) rfl rfl ?_; clear f a; intro a f
            refine s_move f (g_yes f rfl rfl rfl) rfl rfl ?_; clear f a; intro a f
            refine s_bin (v := .bool (decide ((((readI b m).2.1 : Nat) : Int) = (((readI b m).2.1 : Nat) : Int)))) f (g_yes f rfl rfl rfl) rfl rfl rfl arith_eql ?_; clear f a; intro a f
            refine s_pick (r := .bool (decide ((((readI b m).2.1 : Nat) : Int) = (((readI b m).2.1 : Nat) : Int)))) f (g_none rfl) rfl rfl rfl rfl rfl ?_; clear f a; intro a f
            refine s_move f (g_none rfl) rfl rfl ?_; clear f a; intro a f
            have hb260 : (decide ((((readI b m).2.1 : Nat) : Int) = (((readI b m).2.1 : Nat) : Int))) = true := decide_eq_true (by rfl)
            rw [hb260] at f
            refine s_move f (g_yes f rfl rfl rfl) rfl rfl ?_; clear f a; intro a f
            refine s_move f (g_yes f rfl rfl rfl) rfl rfl ?_; clear f a; intro a f
            refine s_bin (v := .bool (decide ((((readI b m).2.2 : Nat) : Int) = (((readI b m).2.2 : Nat) : Int)))) f (g_yes f rfl rfl rfl) rfl rfl rfl arith_eql ?_; clear f a; intro a f
            refine s_pick (r := .bool (decide ((((readI b m).2.2 : Nat) : Int) = (((readI b m).2.2 : Nat) : Int)))) f (g_none rfl) rfl rfl rfl rfl rfl ?_; clear f a; intro a f
            refine s_assign f (g_none rfl) rfl rfl ?_; clear f a; intro a f
            refine nil_then ?_
            refine wp_ret ?_
            refine retG (vs := [.bool (decide ((((readI b m).2.2 : Nat) : Int) = (((readI b m).2.2 : Nat) : Int)))]) f rfl ⟨rfl, trivial⟩ ?_
            exact ⟨congrArg Ending.returned ((congrArg Value.bool (decide_eq_true rfl))), hE⟩

end Go.Proofs.Ytklfgpdfongaeaa
