/- Walks. -/
import Derived.Test.YtklfgpdfongaeaaW7
import Derived.Test.YtklfgpdfongaeaaWireSpec4
namespace Go.Proofs.Ytklfgpdfongaeaa
open Go Go.RowKit
set_option linter.unusedSimpArgs false
set_option linter.unusedVariables false

set_option maxRecDepth 100000 in
theorem wireIDs_calls (p : Option Addr) (l : List ID32) (c : Nat) (q : Option Addr) (b : List UInt8) (d : Nat) (w : World) (hr0 : RdL idsE w p c l) (hr1 : RdL bytesE w q d b) :
    Calls Try.prog 9 #[.slice p l.length c, .slice q b.length d] w (fun e w' => e = .returned (.bool true) ∧ Ext w w') := by
  have hle0 := hr0.le
  have hle1 := hr1.le
  refine enter (n := 124) (l := [(0, .slice p l.length c), (1, .slice q b.length d)]) Try.func9 rfl rfl rfl rfl ?_; intro a f
  refine reg_seq ?_
  refine s_assign f (g_none rfl) rfl rfl ?_; clear f a; intro a f
  refine nil_then ?_
  refine wp_seq ?_
  refine reg_seq ?_
  refine s_move f (g_none rfl) rfl rfl ?_; clear f a; intro a f
  refine t_len f (g_none rfl) rfl rfl Try.underlying83 rfl ?_; clear f a; intro a f
  refine s_bin f (g_none rfl) rfl rfl rfl rfl ?_; clear f a; intro a f
  refine s_move f (g_none rfl) rfl rfl ?_; clear f a; intro a f
  by_cases hc1 : 60 < ((l.length : Nat) : Int)
  · skip
    have hb2 : (decide (60 < ((l.length : Nat) : Int))) = true := decide_eq_true hc1
    rw [hb2] at f
    refine s_skip f (g_no f rfl rfl rfl) rfl ?_; clear f a; intro a f
    refine s_skip f (g_no f rfl rfl rfl) rfl ?_; clear f a; intro a f
    refine s_skip f (g_no f rfl rfl rfl) rfl ?_; clear f a; intro a f
    refine s_pick (r := .bool true) f (g_none rfl) rfl rfl rfl rfl rfl ?_; clear f a; intro a f
    refine nil_then ?_
    refine c_true f rfl ?_
    refine reg_seq ?_
    refine s_call f (g_none rfl) rfl Try.func36 rfl rfl (by simp only [List.map_toArray, List.map_cons, List.map_nil]) (alive_calls  (w := _) ) ?_
    rintro _ w3 ⟨rfl, hx4⟩; refine ⟨_, rfl, ?_⟩; clear f a; intro a f
    have hE := hx4; clear hx4
    refine s_assign f (g_none rfl) rfl rfl ?_; clear f a; intro a f
    refine nil_then ?_
    refine wp_ret ?_
    refine then_r ?_
    refine retG (vs := [.bool true]) f rfl ⟨rfl, trivial⟩ ?_
    exact ⟨congrArg Ending.returned (rfl), hE⟩
  · skip
    have hb5 : (decide (60 < ((l.length : Nat) : Int))) = false := decide_eq_false hc1
    rw [hb5] at f
    refine s_move f (g_yes f rfl rfl rfl) rfl rfl ?_; clear f a; intro a f
    refine t_len f (g_yes f rfl rfl rfl) rfl rfl Try.underlying32 rfl ?_; clear f a; intro a f
    refine s_bin f (g_yes f rfl rfl rfl) rfl rfl rfl rfl ?_; clear f a; intro a f
    refine s_pick (r := .bool (decide (2000 < ((b.length : Nat) : Int)))) f (g_none rfl) rfl rfl rfl rfl rfl ?_; clear f a; intro a f
    refine nil_then ?_
    by_cases hc6 : 2000 < ((b.length : Nat) : Int)
    · skip
      have hb7 : (decide (2000 < ((b.length : Nat) : Int))) = true := decide_eq_true hc6
      rw [hb7] at f
      refine c_true f rfl ?_
      refine reg_seq ?_
      refine s_call f (g_none rfl) rfl Try.func36 rfl rfl (by simp only [List.map_toArray, List.map_cons, List.map_nil]) (alive_calls  (w := _) ) ?_
      rintro _ w8 ⟨rfl, hx9⟩; refine ⟨_, rfl, ?_⟩; clear f a; intro a f
      have hE := hx9; clear hx9
      refine s_assign f (g_none rfl) rfl rfl ?_; clear f a; intro a f
      refine nil_then ?_
      refine wp_ret ?_
      refine then_r ?_
      refine retG (vs := [.bool true]) f rfl ⟨rfl, trivial⟩ ?_
      exact ⟨congrArg Ending.returned (rfl), hE⟩
    · skip
      have hb10 : (decide (2000 < ((b.length : Nat) : Int))) = false := decide_eq_false hc6
      rw [hb10] at f
      have hl60 : l.length ≤ 60 := by omega
      have hbl : b.length ≤ 2000 := by omega
      have hnl := numBytes_len l.length (by omega)
      have hfl := flat_len l
      have hie := readI_err b (m := 60) (by decide)
      refine c_false f rfl ?_
      refine wp_skip ?_
      refine then_n ?_
      refine reg_seq ?_
      refine s_move f (g_none rfl) rfl rfl ?_; clear f a; intro a f
      refine s_call f (g_none rfl) rfl Try.func59 rfl rfl (ev1 f rfl) (wids_calls (p := p) (l := l) (c := c) (w := _) (hr0 := hr0)) ?_
      rintro _ w11 ⟨q12, d13, rfl, hx14, ho15⟩; refine ⟨_, rfl, ?_⟩; clear f a; intro a f
      replace ho15 := ho15.mono (Nat.le_refl _)
      have hE := hx14; clear hx14
      refine s_move f (g_none rfl) rfl rfl ?_; clear f a; intro a f
      refine s_extract (v := .slice q12 ((idsOf l).1).length d13) f (g_none rfl) rfl rfl rfl ?_; clear f a; intro a f
      refine s_extract (v := .int .i64 (((idsOf l).2 : Nat) : Int)) f (g_none rfl) rfl rfl rfl ?_; clear f a; intro a f
      refine s_assign f (g_none rfl) rfl rfl ?_; clear f a; intro a f
      refine s_assign f (g_none rfl) rfl rfl ?_; clear f a; intro a f
      refine nil_then ?_
      refine wp_seq ?_
      refine reg_seq ?_
      refine s_move f (g_none rfl) rfl rfl ?_; clear f a; intro a f
      refine s_bin (v := .bool (decide ((((idsOf l).2 : Nat) : Int) = 0))) f (g_none rfl) rfl rfl rfl arith_eql ?_; clear f a; intro a f
      refine s_move f (g_none rfl) rfl rfl ?_; clear f a; intro a f
      refine s_call f (g_none rfl) rfl Try.func60 rfl rfl (ev1 f rfl) (rrising_calls (p := p) (l := l) (c := c) (w := _) (hr0 := (hr0.ext hE))) ?_
      rintro _ w16 ⟨rfl, hx17⟩; refine ⟨_, rfl, ?_⟩; clear f a; intro a f
      replace ho15 := ho15.ext hx17
      replace hE := hE.tr hx17
      clear hx17
      refine s_neqB f (g_none rfl) rfl Try.underlying4 rfl rfl ?_; clear f a; intro a f
      refine nil_then ?_
      have hb18 : ((decide ((((idsOf l).2 : Nat) : Int) = 0)) != (decide (RisingP l))) = false := by exact idsOf_says hl60
      rw [hb18] at f
      refine c_false f rfl ?_
      refine wp_skip ?_
      refine then_n ?_
      refine wp_seq ?_
      refine reg_seq ?_
      refine s_move f (g_none rfl) rfl rfl ?_; clear f a; intro a f
      refine s_bin (v := .bool (decide ((((idsOf l).2 : Nat) : Int) = 0))) f (g_none rfl) rfl rfl rfl arith_eql ?_; clear f a; intro a f
      refine nil_then ?_
      by_cases hc19 : (((idsOf l).2 : Nat) : Int) = 0
      · skip
        have hb20 : (decide ((((idsOf l).2 : Nat) : Int) = 0)) = true := decide_eq_true hc19
        rw [hb20] at f
        have hri : RisingP l := by
          apply Classical.byContradiction; intro hn; have h0 := hc19; rw [idsOf_no (by omega) hn] at h0; exact absurd h0 (by decide)
        have hzz := idsOf_ok (l := l) (by omega) hri
        have hzl : (idsOf l).1.length = (numBytes l.length).length + 32 * l.length := by rw [hzz]; simp [hfl]
        have hap : readI ((idsOf l).1 ++ b) 60 = (l, (idsOf l).1.length, 0) := by rw [hzz]; exact readI_append hl60 hri b
        have hcu : readI ((idsOf l).1.take ((idsOf l).1.length - 1)) 60 = ([], 0, 12) := by rw [hzz]; exact readI_cut hl60 (by simp; omega)
        refine c_true f rfl ?_
        refine reg_seq ?_
        refine t_lit (E := bytesE) (l := []) (B := w.heap.size) f (g_none rfl) rfl Try.underlying32 ti5 rfl (pt0 f) (by decide) (fill_lit [] rfl rfl (by simp [Value.cells])) rfl rfl (hE.size) ?_; clear f a; intro a w26 p21 c22 f hx24 ho23 hn25
        have hs27 : ∀ b, sblk p21 = some b → sblk q12 ≠ some b := fun b e1 e2 => by have h1 := hn25 _ e1; have h2 := (ho15.lt e2).2; omega
        replace ho15 := ho15.ext hx24
        replace hE := hE.tr hx24
        clear hx24
        clear hn25
        refine s_move f (g_none rfl) rfl rfl ?_; clear f a; intro a f
        refine t_append (E := bytesE) (l := []) (m := (idsOf l).1) (lm := (idsOf l).1) (B := w.heap.size) f (g_none rfl) rfl Try.underlying32 ti5 rfl rfl rfl ho23 (ho15.rd) (by first | omega | (simp; omega)) (by first | omega | (simp; omega)) (hE.size) (List.nil_append _) ?_; clear f a; intro a w33 p28 c29 f ho30 hg31 hn32
        have hs34 : ∀ b, sblk p28 = some b → sblk q12 ≠ some b := fun b e1 e2 => (hn32 _ e1).elim (fun h1 => (by have h3 := hs27; first | exact h3 b h1 e2 | exact h3 b e2 h1)) (fun h1 => by have h2 := (ho15.lt e2).2; omega)
        replace ho15 := ho15.gr' hg31 (by intro b e e2; first | exact hs27 b e e2 | exact hs27 b e2 e)
        replace hE := hE.gr hg31 (fun b e => (ho23.lt e).1)
        clear hg31
        clear ho23
        clear hn32
        refine s_move f (g_none rfl) rfl rfl ?_; clear f a; intro a f
        refine t_append (E := bytesE) (l := (idsOf l).1) (m := b) (lm := (idsOf l).1 ++ b) (B := w.heap.size) f (g_none rfl) rfl Try.underlying32 ti5 rfl rfl rfl ho30 (hr1.ext hE) (by first | omega | (simp; omega)) (by first | omega | (simp; omega)) (hE.size) rfl ?_; clear f a; intro a w40 p35 c36 f ho37 hg38 hn39
        have hs41 : ∀ b, sblk p35 = some b → sblk q12 ≠ some b := fun b e1 e2 => (hn39 _ e1).elim (fun h1 => (by have h3 := hs34; first | exact h3 b h1 e2 | exact h3 b e2 h1)) (fun h1 => by have h2 := (ho15.lt e2).2; omega)
        replace ho15 := ho15.gr' hg38 (by intro b e e2; first | exact hs34 b e e2 | exact hs34 b e2 e)
        replace hE := hE.gr hg38 (fun b e => (ho30.lt e).1)
        clear hg38
        clear ho30
        clear hn39
        refine s_call f (g_none rfl) rfl Try.func61 rfl rfl (ev2 f rfl rfl) (rids_calls (p := p35) (b := (idsOf l).1 ++ b) (c := c36) (m := 60) (h1 := (by omega)) (h2 := (by omega)) (hb := (by rw [List.length_append]; omega)) (w := _) (hr0 := (ho37.rd))) ?_
        rintro _ w42 ⟨q43, d44, rfl, hx45, ho46⟩; refine ⟨_, rfl, ?_⟩; clear f a; intro a f
        have hs47 : ∀ b, sblk q43 = some b → sblk q12 ≠ some b := fun b e1 e2 => by have h1 := (ho46.lt e1).1; have h2 := (ho15.lt e2).2; omega
        have hs48 : ∀ b, sblk q43 = some b → sblk p35 ≠ some b := fun b e1 e2 => by have h1 := (ho46.lt e1).1; have h2 := (ho37.lt e2).2; omega
        replace ho46 := ho46.mono (hE.size)
        replace ho15 := ho15.ext hx45
        replace ho37 := ho37.ext hx45
        replace hE := hE.tr hx45
        clear hx45
        refine s_move f (g_none rfl) rfl rfl ?_; clear f a; intro a f
        refine s_extract (v := .slice q43 ((readI ((idsOf l).1 ++ b) 60).1).length d44) f (g_none rfl) rfl rfl rfl ?_; clear f a; intro a f
        refine s_extract (v := .int .i64 (((readI ((idsOf l).1 ++ b) 60).2.1 : Nat) : Int)) f (g_none rfl) rfl rfl rfl ?_; clear f a; intro a f
        refine s_extract (v := .int .i64 (((readI ((idsOf l).1 ++ b) 60).2.2 : Nat) : Int)) f (g_none rfl) rfl rfl rfl ?_; clear f a; intro a f
        refine s_assign f (g_none rfl) rfl rfl ?_; clear f a; intro a f
        refine s_assign f (g_none rfl) rfl rfl ?_; clear f a; intro a f
        refine s_assign f (g_none rfl) rfl rfl ?_; clear f a; intro a f
        refine nil_then ?_
        refine wp_seq ?_
        refine reg_seq ?_
        refine s_move f (g_none rfl) rfl rfl ?_; clear f a; intro a f
        refine s_bin (v := .bool (decide ((((readI ((idsOf l).1 ++ b) 60).2.2 : Nat) : Int) ≠ 0))) f (g_none rfl) rfl rfl rfl arith_neq ?_; clear f a; intro a f
        refine s_move f (g_none rfl) rfl rfl ?_; clear f a; intro a f
        have hb49 : (decide ((((readI ((idsOf l).1 ++ b) 60).2.2 : Nat) : Int) ≠ 0)) = false := decide_eq_false (by rw [hap]; simp)
        rw [hb49] at f
        refine s_move f (g_yes f rfl rfl rfl) rfl rfl ?_; clear f a; intro a f
        refine s_move f (g_yes f rfl rfl rfl) rfl rfl ?_; clear f a; intro a f
        refine t_len f (g_yes f rfl rfl rfl) rfl rfl Try.underlying32 rfl ?_; clear f a; intro a f
        refine s_bin (v := .bool (decide ((((readI ((idsOf l).1 ++ b) 60).2.1 : Nat) : Int) ≠ ((((idsOf l).1).length : Nat) : Int)))) f (g_yes f rfl rfl rfl) rfl rfl rfl arith_neq ?_; clear f a; intro a f
        refine s_pick (r := .bool (decide ((((readI ((idsOf l).1 ++ b) 60).2.1 : Nat) : Int) ≠ ((((idsOf l).1).length : Nat) : Int)))) f (g_none rfl) rfl rfl rfl rfl rfl ?_; clear f a; intro a f
        refine s_move f (g_none rfl) rfl rfl ?_; clear f a; intro a f
        have hb50 : (decide ((((readI ((idsOf l).1 ++ b) 60).2.1 : Nat) : Int) ≠ ((((idsOf l).1).length : Nat) : Int))) = false := decide_eq_false (by rw [hap]; simp)
        rw [hb50] at f
        refine s_move f (g_yes f rfl rfl rfl) rfl rfl ?_; clear f a; intro a f
        refine s_move f (g_yes f rfl rfl rfl) rfl rfl ?_; clear f a; intro a f
        refine s_call f (g_yes f rfl rfl rfl) rfl Try.func62 rfl rfl (ev2 f rfl rfl) (sameids_calls (p := p) (x := l) (c := c) (q := q43) (y := (readI ((idsOf l).1 ++ b) 60).1) (d := d44) (w := _) (hr0 := (hr0.ext hE)) (hr1 := (ho46.rd))) ?_
        rintro _ w51 ⟨rfl, hx52⟩; refine ⟨_, rfl, ?_⟩; clear f a; intro a f
        replace ho15 := ho15.ext hx52
        replace ho37 := ho37.ext hx52
        replace ho46 := ho46.ext hx52
        replace hE := hE.tr hx52
        clear hx52
        refine s_not f (g_yes f rfl rfl rfl) rfl rfl ?_; clear f a; intro a f
        rw [← decide_not] at f
        refine s_pick (r := .bool (decide (¬ (l = ((readI ((idsOf l).1 ++ b) 60).1))))) f (g_none rfl) rfl rfl rfl rfl rfl ?_; clear f a; intro a f
        refine s_move f (g_none rfl) rfl rfl ?_; clear f a; intro a f
        have hb53 : (decide (¬ (l = ((readI ((idsOf l).1 ++ b) 60).1)))) = false := decide_eq_false (by rw [hap]; simp)
        rw [hb53] at f
        refine s_move f (g_yes f rfl rfl rfl) rfl rfl ?_; clear f a; intro a f
        refine t_len f (g_yes f rfl rfl rfl) rfl rfl Try.underlying32 rfl ?_; clear f a; intro a f
        refine s_bin (v := .bool (decide (((((idsOf l).1).length : Nat) : Int) = 0))) f (g_yes f rfl rfl rfl) rfl rfl rfl arith_eql ?_; clear f a; intro a f
        refine s_pick (r := .bool (decide (((((idsOf l).1).length : Nat) : Int) = 0))) f (g_none rfl) rfl rfl rfl rfl rfl ?_; clear f a; intro a f
        refine nil_then ?_
        have hb54 : (decide (((((idsOf l).1).length : Nat) : Int) = 0)) = false := decide_eq_false (by omega)
        rw [hb54] at f
        refine c_false f rfl ?_
        refine wp_skip ?_
        refine then_n ?_
        refine reg_seq ?_
        refine s_move f (g_none rfl) rfl rfl ?_; clear f a; intro a f
        refine s_move f (g_none rfl) rfl rfl ?_; clear f a; intro a f
        refine t_len f (g_none rfl) rfl rfl Try.underlying32 rfl ?_; clear f a; intro a f
        refine s_bin f (g_none rfl) rfl rfl rfl (arith_sub (r := (((((idsOf l).1).length) - 1 : Nat) : Int)) (wrap_i64 (by omega) (by omega))) ?_; clear f a; intro a f
        refine t_cut (i := 0) (j := (((idsOf l).1).length) - 1) (E := bytesE) (l' := (idsOf l).1.take ((idsOf l).1.length - 1)) f (g_none rfl) rfl Try.underlying32 ti5 rfl (ho15.rd) (.inl ⟨rfl, rfl⟩) (.inr ⟨_, _, rfl, rfl⟩) (by omega) (by omega) (cut_hi _ _) ?_; clear f a; intro a p55 c56 f hs57 hq58
        have hr59 := hs57 _ ho15.rd
        refine s_call f (g_none rfl) rfl Try.func61 rfl rfl (ev2 f rfl rfl) (rids_calls (p := p55) (b := (idsOf l).1.take ((idsOf l).1.length - 1)) (c := c56) (m := 60) (h1 := (by omega)) (h2 := (by omega)) (hb := (by rw [List.length_take]; omega)) (w := _) (hr0 := hr59)) ?_
        rintro _ w60 ⟨q61, d62, rfl, hx63, ho64⟩; refine ⟨_, rfl, ?_⟩; clear f a; intro a f
        have hs65 : ∀ b, sblk q61 = some b → sblk q12 ≠ some b := fun b e1 e2 => by have h1 := (ho64.lt e1).1; have h2 := (ho15.lt e2).2; omega
        have hs66 : ∀ b, sblk q61 = some b → sblk p35 ≠ some b := fun b e1 e2 => by have h1 := (ho64.lt e1).1; have h2 := (ho37.lt e2).2; omega
        have hs67 : ∀ b, sblk q61 = some b → sblk q43 ≠ some b := fun b e1 e2 => by have h1 := (ho64.lt e1).1; have h2 := (ho46.lt e2).2; omega
        replace ho64 := ho64.mono (hE.size)
        replace ho15 := ho15.ext hx63
        replace ho37 := ho37.ext hx63
        replace ho46 := ho46.ext hx63
        replace hr59 := hr59.ext hx63
        replace hE := hE.tr hx63
        clear hx63
        refine s_move f (g_none rfl) rfl rfl ?_; clear f a; intro a f
        refine s_extract (v := .slice q61 ((readI ((idsOf l).1.take ((idsOf l).1.length - 1)) 60).1).length d62) f (g_none rfl) rfl rfl rfl ?_; clear f a; intro a f
        refine s_extract (v := .int .i64 (((readI ((idsOf l).1.take ((idsOf l).1.length - 1)) 60).2.1 : Nat) : Int)) f (g_none rfl) rfl rfl rfl ?_; clear f a; intro a f
        refine s_extract (v := .int .i64 (((readI ((idsOf l).1.take ((idsOf l).1.length - 1)) 60).2.2 : Nat) : Int)) f (g_none rfl) rfl rfl rfl ?_; clear f a; intro a f
        refine s_assign f (g_none rfl) rfl rfl ?_; clear f a; intro a f
        refine s_assign f (g_none rfl) rfl rfl ?_; clear f a; intro a f
        refine s_assign f (g_none rfl) rfl rfl ?_; clear f a; intro a f
        refine nil_then ?_
        refine reg_seq ?_
        refine s_move f (g_none rfl) rfl rfl ?_; clear f a; intro a f
        refine s_bin (v := .bool (decide ((((readI ((idsOf l).1.take ((idsOf l).1.length - 1)) 60).2.2 : Nat) : Int) ≠ 12))) f (g_none rfl) rfl rfl rfl arith_neq ?_; clear f a; intro a f
        refine nil_then ?_
        have hb69 : (decide ((((readI ((idsOf l).1.take ((idsOf l).1.length - 1)) 60).2.2 : Nat) : Int) ≠ 12)) = false := decide_eq_false (by rw [hcu]; simp)
        rw [hb69] at f
        refine c_false f rfl ?_
        refine wp_skip ?_
        refine then_n ?_
        refine reg_seq ?_
        refine s_move f (g_none rfl) rfl rfl ?_; clear f a; intro a f
        refine s_call f (g_none rfl) rfl Try.func61 rfl rfl (ev2 f rfl rfl) (rids_calls (p := q) (b := b) (c := d) (m := 60) (h1 := (by omega)) (h2 := (by omega)) (hb := (by omega)) (w := _) (hr0 := (hr1.ext hE))) ?_
        rintro _ w70 ⟨q71, d72, rfl, hx73, ho74⟩; refine ⟨_, rfl, ?_⟩; clear f a; intro a f
        have hs75 : ∀ b, sblk q71 = some b → sblk q12 ≠ some b := fun b e1 e2 => by have h1 := (ho74.lt e1).1; have h2 := (ho15.lt e2).2; omega
        have hs76 : ∀ b, sblk q71 = some b → sblk p35 ≠ some b := fun b e1 e2 => by have h1 := (ho74.lt e1).1; have h2 := (ho37.lt e2).2; omega
        have hs77 : ∀ b, sblk q71 = some b → sblk q43 ≠ some b := fun b e1 e2 => by have h1 := (ho74.lt e1).1; have h2 := (ho46.lt e2).2; omega
        have hs79 : ∀ b, sblk q71 = some b → sblk q61 ≠ some b := fun b e1 e2 => by have h1 := (ho74.lt e1).1; have h2 := (ho64.lt e2).2; omega
        replace ho74 := ho74.mono (hE.size)
        replace ho15 := ho15.ext hx73
        replace ho37 := ho37.ext hx73
        replace ho46 := ho46.ext hx73
        replace hr59 := hr59.ext hx73
        replace ho64 := ho64.ext hx73
        replace hE := hE.tr hx73
        clear hx73
        refine s_move f (g_none rfl) rfl rfl ?_; clear f a; intro a f
        refine s_extract (v := .slice q71 ((readI b 60).1).length d72) f (g_none rfl) rfl rfl rfl ?_; clear f a; intro a f
        refine s_extract (v := .int .i64 (((readI b 60).2.1 : Nat) : Int)) f (g_none rfl) rfl rfl rfl ?_; clear f a; intro a f
        refine s_extract (v := .int .i64 (((readI b 60).2.2 : Nat) : Int)) f (g_none rfl) rfl rfl rfl ?_; clear f a; intro a f
        refine s_assign f (g_none rfl) rfl rfl ?_; clear f a; intro a f
        refine s_assign f (g_none rfl) rfl rfl ?_; clear f a; intro a f
        refine s_assign f (g_none rfl) rfl rfl ?_; clear f a; intro a f
        refine nil_then ?_
        refine wp_seq ?_
        refine reg_seq ?_
        refine s_move f (g_none rfl) rfl rfl ?_; clear f a; intro a f
        refine s_bin (v := .bool (decide ((((readI b 60).2.2 : Nat) : Int) ≠ 0))) f (g_none rfl) rfl rfl rfl arith_neq ?_; clear f a; intro a f
        refine nil_then ?_
        by_cases hc80 : (((readI b 60).2.2 : Nat) : Int) ≠ 0
        · skip
          have hb81 : (decide ((((readI b 60).2.2 : Nat) : Int) ≠ 0)) = true := decide_eq_true hc80
          rw [hb81] at f
          refine c_true f rfl ?_
          refine reg_seq ?_
          refine s_move f (g_none rfl) rfl rfl ?_; clear f a; intro a f
          refine s_bin (v := .bool (decide ((((readI b 60).2.2 : Nat) : Int) = 12))) f (g_none rfl) rfl rfl rfl arith_eql ?_; clear f a; intro a f
          refine s_move f (g_none rfl) rfl rfl ?_; clear f a; intro a f
          have hb82 : (decide ((((readI b 60).2.2 : Nat) : Int) = 12)) = true := decide_eq_true (by omega)
          rw [hb82] at f
          refine s_call f (g_yes f rfl rfl rfl) rfl Try.func36 rfl rfl (by simp only [List.map_toArray, List.map_cons, List.map_nil]) (alive_calls  (w := _) ) ?_
          rintro _ w83 ⟨rfl, hx84⟩; refine ⟨_, rfl, ?_⟩; clear f a; intro a f
          replace ho15 := ho15.ext hx84
          replace ho37 := ho37.ext hx84
          replace ho46 := ho46.ext hx84
          replace hr59 := hr59.ext hx84
          replace ho64 := ho64.ext hx84
          replace ho74 := ho74.ext hx84
          replace hE := hE.tr hx84
          clear hx84
          refine s_pick (r := .bool true) f (g_none rfl) rfl rfl rfl rfl rfl ?_; clear f a; intro a f
          refine s_assign f (g_none rfl) rfl rfl ?_; clear f a; intro a f
          refine nil_then ?_
          refine wp_ret ?_
          refine then_r ?_
          refine retG (vs := [.bool true]) f rfl ⟨rfl, trivial⟩ ?_
          exact ⟨congrArg Ending.returned (rfl), hE⟩
        · skip
          have hb85 : (decide ((((readI b 60).2.2 : Nat) : Int) ≠ 0)) = false := decide_eq_false hc80
          rw [hb85] at f
          have hbk := readI_back (b := b) (by have := hc80; omega)
          refine c_false f rfl ?_
          refine wp_skip ?_
          refine then_n ?_
          refine reg_seq ?_
          refine s_move f (g_none rfl) rfl rfl ?_; clear f a; intro a f
          refine s_call f (g_none rfl) rfl Try.func59 rfl rfl (ev1 f rfl) (wids_calls (p := q71) (l := (readI b 60).1) (c := d72) (w := _) (hr0 := (ho74.rd))) ?_
          rintro _ w86 ⟨q87, d88, rfl, hx89, ho90⟩; refine ⟨_, rfl, ?_⟩; clear f a; intro a f
          have hs91 : ∀ b, sblk q87 = some b → sblk q12 ≠ some b := fun b e1 e2 => by have h1 := (ho90.lt e1).1; have h2 := (ho15.lt e2).2; omega
          have hs92 : ∀ b, sblk q87 = some b → sblk p35 ≠ some b := fun b e1 e2 => by have h1 := (ho90.lt e1).1; have h2 := (ho37.lt e2).2; omega
          have hs93 : ∀ b, sblk q87 = some b → sblk q43 ≠ some b := fun b e1 e2 => by have h1 := (ho90.lt e1).1; have h2 := (ho46.lt e2).2; omega
          have hs95 : ∀ b, sblk q87 = some b → sblk q61 ≠ some b := fun b e1 e2 => by have h1 := (ho90.lt e1).1; have h2 := (ho64.lt e2).2; omega
          have hs96 : ∀ b, sblk q87 = some b → sblk q71 ≠ some b := fun b e1 e2 => by have h1 := (ho90.lt e1).1; have h2 := (ho74.lt e2).2; omega
          replace ho90 := ho90.mono (hE.size)
          replace ho15 := ho15.ext hx89
          replace ho37 := ho37.ext hx89
          replace ho46 := ho46.ext hx89
          replace hr59 := hr59.ext hx89
          replace ho64 := ho64.ext hx89
          replace ho74 := ho74.ext hx89
          replace hE := hE.tr hx89
          clear hx89
          refine s_move f (g_none rfl) rfl rfl ?_; clear f a; intro a f
          refine s_extract (v := .slice q87 ((idsOf ((readI b 60).1)).1).length d88) f (g_none rfl) rfl rfl rfl ?_; clear f a; intro a f
          refine s_extract (v := .int .i64 (((idsOf ((readI b 60).1)).2 : Nat) : Int)) f (g_none rfl) rfl rfl rfl ?_; clear f a; intro a f
          refine s_assign f (g_none rfl) rfl rfl ?_; clear f a; intro a f
          refine s_assign f (g_none rfl) rfl rfl ?_; clear f a; intro a f
          refine nil_then ?_
          refine reg_seq ?_
          refine s_move f (g_none rfl) rfl rfl ?_; clear f a; intro a f
          refine s_bin (v := .bool (decide ((((idsOf ((readI b 60).1)).2 : Nat) : Int) = 0))) f (g_none rfl) rfl rfl rfl arith_eql ?_; clear f a; intro a f
          refine s_move f (g_none rfl) rfl rfl ?_; clear f a; intro a f
          have hb97 : (decide ((((idsOf ((readI b 60).1)).2 : Nat) : Int) = 0)) = true := decide_eq_true (by rw [hbk.2.2.1]; rfl)
          rw [hb97] at f
          refine s_move f (g_yes f rfl rfl rfl) rfl rfl ?_; clear f a; intro a f
          refine s_call f (g_yes f rfl rfl rfl) rfl Try.func60 rfl rfl (ev1 f rfl) (rrising_calls (p := q71) (l := (readI b 60).1) (c := d72) (w := _) (hr0 := (ho74.rd))) ?_
          rintro _ w98 ⟨rfl, hx99⟩; refine ⟨_, rfl, ?_⟩; clear f a; intro a f
          replace ho15 := ho15.ext hx99
          replace ho37 := ho37.ext hx99
          replace ho46 := ho46.ext hx99
          replace hr59 := hr59.ext hx99
          replace ho64 := ho64.ext hx99
          replace ho74 := ho74.ext hx99
          replace ho90 := ho90.ext hx99
          replace hE := hE.tr hx99
          clear hx99
          refine s_pick (r := .bool (decide (RisingP ((readI b 60).1)))) f (g_none rfl) rfl rfl rfl rfl rfl ?_; clear f a; intro a f
          refine s_move f (g_none rfl) rfl rfl ?_; clear f a; intro a f
          have hb100 : (decide (RisingP ((readI b 60).1))) = true := decide_eq_true (by exact hbk.1)
          rw [hb100] at f
          refine s_move f (g_yes f rfl rfl rfl) rfl rfl ?_; clear f a; intro a f
          refine s_bin f (g_yes f rfl rfl rfl) rfl rfl rfl rfl ?_; clear f a; intro a f
          refine s_pick (r := .bool (decide (1 ≤ (((readI b 60).2.1 : Nat) : Int)))) f (g_none rfl) rfl rfl rfl rfl rfl ?_; clear f a; intro a f
          refine s_move f (g_none rfl) rfl rfl ?_; clear f a; intro a f
          have hb101 : (decide (1 ≤ (((readI b 60).2.1 : Nat) : Int))) = true := decide_eq_true (by omega)
          rw [hb101] at f
          refine s_move f (g_yes f rfl rfl rfl) rfl rfl ?_; clear f a; intro a f
          refine s_move f (g_yes f rfl rfl rfl) rfl rfl ?_; clear f a; intro a f
          refine t_len f (g_yes f rfl rfl rfl) rfl rfl Try.underlying32 rfl ?_; clear f a; intro a f
          refine s_bin f (g_yes f rfl rfl rfl) rfl rfl rfl rfl ?_; clear f a; intro a f
          refine s_pick (r := .bool (decide ((((readI b 60).2.1 : Nat) : Int) ≤ ((b.length : Nat) : Int)))) f (g_none rfl) rfl rfl rfl rfl rfl ?_; clear f a; intro a f
          refine s_move f (g_none rfl) rfl rfl ?_; clear f a; intro a f
          have hb102 : (decide ((((readI b 60).2.1 : Nat) : Int) ≤ ((b.length : Nat) : Int))) = true := decide_eq_true (by omega)
          rw [hb102] at f
          refine s_move f (g_yes f rfl rfl rfl) rfl rfl ?_; clear f a; intro a f
          refine s_move f (g_yes f rfl rfl rfl) rfl rfl ?_; clear f a; intro a f
          refine s_move f (g_yes f rfl rfl rfl) rfl rfl ?_; clear f a; intro a f
          refine t_cut (i := 0) (j := (readI b 60).2.1) (E := bytesE) (l' := b.take (readI b 60).2.1) f (g_yes f rfl rfl rfl) rfl Try.underlying32 ti5 rfl (hr1.ext hE) (.inl ⟨rfl, rfl⟩) (.inr ⟨_, _, rfl, rfl⟩) (by omega) (by omega) (cut_hi _ _) ?_; clear f a; intro a p103 c104 f hs105 hq106
          have hr107 := hs105 _ hr1
          refine s_call f (g_yes f rfl rfl rfl) rfl Try.func30 rfl rfl (ev2 f rfl rfl) (same_calls (p := q87) (x := (idsOf ((readI b 60).1)).1) (c := d88) (q := p103) (y := b.take (readI b 60).2.1) (d := c104) (w := _) (hr0 := (ho90.rd)) (hr1 := (hr107.ext hE))) ?_
          rintro _ w108 ⟨rfl, hx109⟩; refine ⟨_, rfl, ?_⟩; clear f a; intro a f
          replace ho15 := ho15.ext hx109
          replace ho37 := ho37.ext hx109
          replace ho46 := ho46.ext hx109
          replace hr59 := hr59.ext hx109
          replace ho64 := ho64.ext hx109
          replace ho74 := ho74.ext hx109
          replace ho90 := ho90.ext hx109
          replace hE := hE.tr hx109
          clear hx109
          refine s_pick (r := .bool (decide (((idsOf ((readI b 60).1)).1) = (b.take (readI b 60).2.1)))) f (g_none rfl) rfl rfl rfl rfl rfl ?_; clear f a; intro a f
          refine s_move f (g_none rfl) rfl rfl ?_; clear f a; intro a f
          have hb110 : (decide (((idsOf ((readI b 60).1)).1) = (b.take (readI b 60).2.1))) = true := decide_eq_true (by rw [hbk.2.2.1])
          rw [hb110] at f
          refine s_call f (g_yes f rfl rfl rfl) rfl Try.func36 rfl rfl (by simp only [List.map_toArray, List.map_cons, List.map_nil]) (alive_calls  (w := _) ) ?_
          rintro _ w111 ⟨rfl, hx112⟩; refine ⟨_, rfl, ?_⟩; clear f a; intro a f
          replace ho15 := ho15.ext hx112
          replace ho37 := ho37.ext hx112
          replace ho46 := ho46.ext hx112
          replace hr59 := hr59.ext hx112
          replace ho64 := ho64.ext hx112
          replace ho74 := ho74.ext hx112
          replace ho90 := ho90.ext hx112
          replace hE := hE.tr hx112
          clear hx112
          refine s_pick (r := .bool true) f (g_none rfl) rfl rfl rfl rfl rfl ?_; clear f a; intro a f
          refine s_assign f (g_none rfl) rfl rfl ?_; clear f a; intro a f
          refine nil_then ?_
          refine wp_ret ?_
          refine retG (vs := [.bool true]) f rfl ⟨rfl, trivial⟩ ?_
          exact ⟨congrArg Ending.returned (rfl), hE⟩
      · skip
        have hb113 : (decide ((((idsOf l).2 : Nat) : Int) = 0)) = false := decide_eq_false hc19
        rw [hb113] at f
        refine c_false f rfl ?_
        refine wp_skip ?_
        refine then_n ?_
        refine reg_seq ?_
        refine s_move f (g_none rfl) rfl rfl ?_; clear f a; intro a f
        refine s_call f (g_none rfl) rfl Try.func61 rfl rfl (ev2 f rfl rfl) (rids_calls (p := q) (b := b) (c := d) (m := 60) (h1 := (by omega)) (h2 := (by omega)) (hb := (by omega)) (w := _) (hr0 := (hr1.ext hE))) ?_
        rintro _ w114 ⟨q115, d116, rfl, hx117, ho118⟩; refine ⟨_, rfl, ?_⟩; clear f a; intro a f
        have hs119 : ∀ b, sblk q115 = some b → sblk q12 ≠ some b := fun b e1 e2 => by have h1 := (ho118.lt e1).1; have h2 := (ho15.lt e2).2; omega
        replace ho118 := ho118.mono (hE.size)
        replace ho15 := ho15.ext hx117
        replace hE := hE.tr hx117
        clear hx117
        refine s_move f (g_none rfl) rfl rfl ?_; clear f a; intro a f
        refine s_extract (v := .slice q115 ((readI b 60).1).length d116) f (g_none rfl) rfl rfl rfl ?_; clear f a; intro a f
        refine s_extract (v := .int .i64 (((readI b 60).2.1 : Nat) : Int)) f (g_none rfl) rfl rfl rfl ?_; clear f a; intro a f
        refine s_extract (v := .int .i64 (((readI b 60).2.2 : Nat) : Int)) f (g_none rfl) rfl rfl rfl ?_; clear f a; intro a f
        refine s_assign f (g_none rfl) rfl rfl ?_; clear f a; intro a f
        refine s_assign f (g_none rfl) rfl rfl ?_; clear f a; intro a f
        refine s_assign f (g_none rfl) rfl rfl ?_; clear f a; intro a f
        refine nil_then ?_
        refine wp_seq ?_
        refine reg_seq ?_
        refine s_move f (g_none rfl) rfl rfl ?_; clear f a; intro a f
        refine s_bin (v := .bool (decide ((((readI b 60).2.2 : Nat) : Int) ≠ 0))) f (g_none rfl) rfl rfl rfl arith_neq ?_; clear f a; intro a f
        refine nil_then ?_
        by_cases hc120 : (((readI b 60).2.2 : Nat) : Int) ≠ 0
        · skip
          have hb121 : (decide ((((readI b 60).2.2 : Nat) : Int) ≠ 0)) = true := decide_eq_true hc120
          rw [hb121] at f
          refine c_true f rfl ?_
          refine reg_seq ?_
          refine s_move f (g_none rfl) rfl rfl ?_; clear f a; intro a f
          refine s_bin (v := .bool (decide ((((readI b 60).2.2 : Nat) : Int) = 12))) f (g_none rfl) rfl rfl rfl arith_eql ?_; clear f a; intro a f
          refine s_move f (g_none rfl) rfl rfl ?_; clear f a; intro a f
          have hb122 : (decide ((((readI b 60).2.2 : Nat) : Int) = 12)) = true := decide_eq_true (by omega)
          rw [hb122] at f
          refine s_call f (g_yes f rfl rfl rfl) rfl Try.func36 rfl rfl (by simp only [List.map_toArray, List.map_cons, List.map_nil]) (alive_calls  (w := _) ) ?_
          rintro _ w123 ⟨rfl, hx124⟩; refine ⟨_, rfl, ?_⟩; clear f a; intro a f
          replace ho15 := ho15.ext hx124
          replace ho118 := ho118.ext hx124
          replace hE := hE.tr hx124
          clear hx124
          refine s_pick (r := .bool true) f (g_none rfl) rfl rfl rfl rfl rfl ?_; clear f a; intro a f
          refine s_assign f (g_none rfl) rfl rfl ?_; clear f a; intro a f
          refine nil_then ?_
          refine wp_ret ?_
          refine then_r ?_
          refine retG (vs := [.bool true]) f rfl ⟨rfl, trivial⟩ ?_
          exact ⟨congrArg Ending.returned (rfl), hE⟩
        · skip
          have hb125 : (decide ((((readI b 60).2.2 : Nat) : Int) ≠ 0)) = false := decide_eq_false hc120
          rw [hb125] at f
          have hbk := readI_back (b := b) (by have := hc120; omega)
          refine c_false f rfl ?_
          refine wp_skip ?_
          refine then_n ?_
          refine reg_seq ?_
          refine s_move f (g_none rfl) rfl rfl ?_; clear f a; intro a f
          refine s_call f (g_none rfl) rfl Try.func59 rfl rfl (ev1 f rfl) (wids_calls (p := q115) (l := (readI b 60).1) (c := d116) (w := _) (hr0 := (ho118.rd))) ?_
          rintro _ w126 ⟨q127, d128, rfl, hx129, ho130⟩; refine ⟨_, rfl, ?_⟩; clear f a; intro a f
          have hs131 : ∀ b, sblk q127 = some b → sblk q12 ≠ some b := fun b e1 e2 => by have h1 := (ho130.lt e1).1; have h2 := (ho15.lt e2).2; omega
          have hs132 : ∀ b, sblk q127 = some b → sblk q115 ≠ some b := fun b e1 e2 => by have h1 := (ho130.lt e1).1; have h2 := (ho118.lt e2).2; omega
          replace ho130 := ho130.mono (hE.size)
          replace ho15 := ho15.ext hx129
          replace ho118 := ho118.ext hx129
          replace hE := hE.tr hx129
          clear hx129
          refine s_move f (g_none rfl) rfl rfl ?_; clear f a; intro a f
          refine s_extract (v := .slice q127 ((idsOf ((readI b 60).1)).1).length d128) f (g_none rfl) rfl rfl rfl ?_; clear f a; intro a f
          refine s_extract (v := .int .i64 (((idsOf ((readI b 60).1)).2 : Nat) : Int)) f (g_none rfl) rfl rfl rfl ?_; clear f a; intro a f
          refine s_assign f (g_none rfl) rfl rfl ?_; clear f a; intro a f
          refine s_assign f (g_none rfl) rfl rfl ?_; clear f a; intro a f
          refine nil_then ?_
          refine reg_seq ?_
          refine s_move f (g_none rfl) rfl rfl ?_; clear f a; intro a f
          refine s_bin (v := .bool (decide ((((idsOf ((readI b 60).1)).2 : Nat) : Int) = 0))) f (g_none rfl) rfl rfl rfl arith_eql ?_; clear f a; intro a f
          refine s_move f (g_none rfl) rfl rfl ?_; clear f a; intro a f
          have hb133 : (decide ((((idsOf ((readI b 60).1)).2 : Nat) : Int) = 0)) = true := decide_eq_true (by rw [hbk.2.2.1]; rfl)
          rw [hb133] at f
          refine s_move f (g_yes f rfl rfl rfl) rfl rfl ?_; clear f a; intro a f
          refine s_call f (g_yes f rfl rfl rfl) rfl Try.func60 rfl rfl (ev1 f rfl) (rrising_calls (p := q115) (l := (readI b 60).1) (c := d116) (w := _) (hr0 := (ho118.rd))) ?_
          rintro _ w134 ⟨rfl, hx135⟩; refine ⟨_, rfl, ?_⟩; clear f a; intro a f
          replace ho15 := ho15.ext hx135
          replace ho118 := ho118.ext hx135
          replace ho130 := ho130.ext hx135
          replace hE := hE.tr hx135
          clear hx135
          refine s_pick (r := .bool (decide (RisingP ((readI b 60).1)))) f (g_none rfl) rfl rfl rfl rfl rfl ?_; clear f a; intro a f
          refine s_move f (g_none rfl) rfl rfl ?_; clear f a; intro a f
          have hb136 : (decide (RisingP ((readI b 60).1))) = true := decide_eq_true (by exact hbk.1)
          rw [hb136] at f
          refine s_move f (g_yes f rfl rfl rfl) rfl rfl ?_; clear f a; intro a f
          refine s_bin f (g_yes f rfl rfl rfl) rfl rfl rfl rfl ?_; clear f a; intro a f
          refine s_pick (r := .bool (decide (1 ≤ (((readI b 60).2.1 : Nat) : Int)))) f (g_none rfl) rfl rfl rfl rfl rfl ?_; clear f a; intro a f
          refine s_move f (g_none rfl) rfl rfl ?_; clear f a; intro a f
          have hb137 : (decide (1 ≤ (((readI b 60).2.1 : Nat) : Int))) = true := decide_eq_true (by omega)
          rw [hb137] at f
          refine s_move f (g_yes f rfl rfl rfl) rfl rfl ?_; clear f a; intro a f
          refine s_move f (g_yes f rfl rfl rfl) rfl rfl ?_; clear f a; intro a f
          refine t_len f (g_yes f rfl rfl rfl) rfl rfl Try.underlying32 rfl ?_; clear f a; intro a f
          refine s_bin f (g_yes f rfl rfl rfl) rfl rfl rfl rfl ?_; clear f a; intro a f
          refine s_pick (r := .bool (decide ((((readI b 60).2.1 : Nat) : Int) ≤ ((b.length : Nat) : Int)))) f (g_none rfl) rfl rfl rfl rfl rfl ?_; clear f a; intro a f
          refine s_move f (g_none rfl) rfl rfl ?_; clear f a; intro a f
          have hb138 : (decide ((((readI b 60).2.1 : Nat) : Int) ≤ ((b.length : Nat) : Int))) = true := decide_eq_true (by omega)
          rw [hb138] at f
          refine s_move f (g_yes f rfl rfl rfl) rfl rfl ?_; clear f a; intro a f
          refine s_move f (g_yes f rfl rfl rfl) rfl rfl ?_; clear f a; intro a f
          refine s_move f (g_yes f rfl rfl rfl) rfl rfl ?_; clear f a; intro a f
          refine t_cut (i := 0) (j := (readI b 60).2.1) (E := bytesE) (l' := b.take (readI b 60).2.1) f (g_yes f rfl rfl rfl) rfl Try.underlying32 ti5 rfl (hr1.ext hE) (.inl ⟨rfl, rfl⟩) (.inr ⟨_, _, rfl, rfl⟩) (by omega) (by omega) (cut_hi _ _) ?_; clear f a; intro a p139 c140 f hs141 hq142
          have hr143 := hs141 _ hr1
          refine s_call f (g_yes f rfl rfl rfl) rfl Try.func30 rfl rfl (ev2 f rfl rfl) (same_calls (p := q127) (x := (idsOf ((readI b 60).1)).1) (c := d128) (q := p139) (y := b.take (readI b 60).2.1) (d := c140) (w := _) (hr0 := (ho130.rd)) (hr1 := (hr143.ext hE))) ?_
          rintro _ w144 ⟨rfl, hx145⟩; refine ⟨_, rfl, ?_⟩; clear f a; intro a f
          replace ho15 := ho15.ext hx145
          replace ho118 := ho118.ext hx145
          replace ho130 := ho130.ext hx145
          replace hE := hE.tr hx145
          clear hx145
          refine s_pick (r := .bool (decide (((idsOf ((readI b 60).1)).1) = (b.take (readI b 60).2.1)))) f (g_none rfl) rfl rfl rfl rfl rfl ?_; clear f a; intro a f
          refine s_move f (g_none rfl) rfl rfl ?_; clear f a; intro a f
          have hb146 : (decide (((idsOf ((readI b 60).1)).1) = (b.take (readI b 60).2.1))) = true := decide_eq_true (by rw [hbk.2.2.1])
          rw [hb146] at f
          refine s_call f (g_yes f rfl rfl rfl) rfl Try.func36 rfl rfl (by simp only [List.map_toArray, List.map_cons, List.map_nil]) (alive_calls  (w := _) ) ?_
          rintro _ w147 ⟨rfl, hx148⟩; refine ⟨_, rfl, ?_⟩; clear f a; intro a f
          replace ho15 := ho15.ext hx148
          replace ho118 := ho118.ext hx148
          replace ho130 := ho130.ext hx148
          replace hE := hE.tr hx148
          clear hx148
          refine s_pick (r := .bool true) f (g_none rfl) rfl rfl rfl rfl rfl ?_; clear f a; intro a f
          refine s_assign f (g_none rfl) rfl rfl ?_; clear f a; intro a f
          refine nil_then ?_
          refine wp_ret ?_
          refine retG (vs := [.bool true]) f rfl ⟨rfl, trivial⟩ ?_
          exact ⟨congrArg Ending.returned (rfl), hE⟩

end Go.Proofs.Ytklfgpdfongaeaa
