/- Walks. -/
import Derived.Test.YtklfgpdfongaeaaW2
import Derived.Test.YtklfgpdfongaeaaWireSpec2
import Derived.Test.YtklfgpdfongaeaaLibH2
namespace Go.Proofs.Ytklfgpdfongaeaa
open Go Go.RowKit
set_option linter.unusedSimpArgs false
set_option linter.unusedVariables false

set_option maxRecDepth 100000 in
theorem wireOne_calls (n : Nat) (hn : n < 18446744073709551616) (m : Int) (h1 : -9223372036854775808 ≤ m) (h2 : m ≤ 9223372036854775807) (p : Option Addr) (s : List UInt8) (c : Nat) (q : Option Addr) (b : List UInt8) (d : Nat) (w : World) (hr2 : RdL bytesE w p c s) (hr3 : RdL bytesE w q d b) :
    Calls Try.prog 7 #[.int .u64 ((n : Nat) : Int), .int .i64 m, .slice p s.length c, .slice q b.length d] w (fun e w' => e = .returned (.bool true) ∧ Ext w w') := by
  have hln := numBytes_len n hn
  have hlz := numBytes_len (zig m) (zig_lt h1 h2)
  have hls := numBytes_len s.length
  have hpb := partL_len b 1000 1
  have hle2 := hr2.le
  have hle3 := hr3.le
  refine enter (n := 233) (l := [(0, .int .u64 ((n : Nat) : Int)), (1, .int .i64 m), (2, .slice p s.length c), (3, .slice q b.length d)]) Try.func7 rfl rfl rfl rfl ?_; intro a f
  refine reg_seq ?_
  refine s_assign f (g_none rfl) rfl rfl ?_; clear f a; intro a f
  refine nil_then ?_
  refine wp_seq ?_
  refine reg_seq ?_
  refine s_move f (g_none rfl) rfl rfl ?_; clear f a; intro a f
  refine t_len f (g_none rfl) rfl rfl Try.underlying32 rfl ?_; clear f a; intro a f
  refine s_bin f (g_none rfl) rfl rfl rfl rfl ?_; clear f a; intro a f
  refine s_move f (g_none rfl) rfl rfl ?_; clear f a; intro a f
  by_cases hc1 : 1000 < ((s.length : Nat) : Int)
  · skip
    have hb2 : (decide (1000 < ((s.length : Nat) : Int))) = true := decide_eq_true hc1
    rw [hb2] at f
    refine s_skip f (g_no f rfl rfl rfl) rfl ?_; clear f a; intro a f
    refine s_skip f (g_no f rfl rfl rfl) rfl ?_; clear f a; intro a f
    refine s_skip f (g_no f rfl rfl rfl) rfl ?_; clear f a; intro a f
    refine s_pick (r := .bool true) f (g_none rfl) rfl rfl rfl rfl rfl ?_; clear f a; intro a f
    refine nil_then ?_
    refine c_true f rfl ?_
    refine reg_seq ?_
    refine s_call f (g_none rfl) rfl Try.func36 rfl rfl (by simp only [List.map_toArray, List.map_cons, List.map_nil]) (alive_calls  (w := _) ) ?_
    rintro _ w3 ⟨rfl, hx4⟩; refine ⟨_, rfl, ?_⟩; clear f a; intro a f
    have hE := hx4; clear hx4
    refine s_assign f (g_none rfl) rfl rfl ?_; clear f a; intro a f
    refine nil_then ?_
    refine wp_ret ?_
    refine then_r ?_
    refine retG (vs := [.bool true]) f rfl ⟨rfl, trivial⟩ ?_
    exact ⟨congrArg Ending.returned (rfl), hE⟩
  · skip
    have hb5 : (decide (1000 < ((s.length : Nat) : Int))) = false := decide_eq_false hc1
    rw [hb5] at f
    refine s_move f (g_yes f rfl rfl rfl) rfl rfl ?_; clear f a; intro a f
    refine t_len f (g_yes f rfl rfl rfl) rfl rfl Try.underlying32 rfl ?_; clear f a; intro a f
    refine s_bin f (g_yes f rfl rfl rfl) rfl rfl rfl rfl ?_; clear f a; intro a f
    refine s_pick (r := .bool (decide (1000 < ((b.length : Nat) : Int)))) f (g_none rfl) rfl rfl rfl rfl rfl ?_; clear f a; intro a f
    refine nil_then ?_
    by_cases hc6 : 1000 < ((b.length : Nat) : Int)
    · skip
      have hb7 : (decide (1000 < ((b.length : Nat) : Int))) = true := decide_eq_true hc6
      rw [hb7] at f
      refine c_true f rfl ?_
      refine reg_seq ?_
      refine s_call f (g_none rfl) rfl Try.func36 rfl rfl (by simp only [List.map_toArray, List.map_cons, List.map_nil]) (alive_calls  (w := _) ) ?_
      rintro _ w8 ⟨rfl, hx9⟩; refine ⟨_, rfl, ?_⟩; clear f a; intro a f
      have hE := hx9; clear hx9
      refine s_assign f (g_none rfl) rfl rfl ?_; clear f a; intro a f
      refine nil_then ?_
      refine wp_ret ?_
      refine then_r ?_
      refine retG (vs := [.bool true]) f rfl ⟨rfl, trivial⟩ ?_
      exact ⟨congrArg Ending.returned (rfl), hE⟩
    · skip
      have hb10 : (decide (1000 < ((b.length : Nat) : Int))) = false := decide_eq_false hc6
      rw [hb10] at f
      have hzz : bytesOf s = (numBytes s.length ++ s, 0) := bytesOf_ok (by omega)
      have hsl : s.length ≤ 1000 := by omega
      have hbl : b.length ≤ 1000 := by omega
      have hlq := numBytes_len s.length (by omega)
      have hzl : (bytesOf s).1.length = (numBytes s.length).length + s.length := by rw [hzz]; simp
      have hx1 := readN_append hn b
      have hy1 := readS_append h1 h2 b
      have hz1 : partL ((bytesOf s).1 ++ b) 1000 1 = (s, (bytesOf s).1.length, 0) := by rw [hzz]; exact partL_append (by omega) (by omega) (by decide) (by omega)
      refine c_false f rfl ?_
      refine wp_skip ?_
      refine then_n ?_
      refine reg_seq ?_
      refine s_move f (g_none rfl) rfl rfl ?_; clear f a; intro a f
      refine s_call f (g_none rfl) rfl Try.func31 rfl rfl (ev1 f rfl) (number_calls (n := n) (hn := (by omega)) (w := _) ) ?_
      rintro _ w11 ⟨p12, c13, rfl, hx14, ho15⟩; refine ⟨_, rfl, ?_⟩; clear f a; intro a f
      replace ho15 := ho15.mono (Nat.le_refl _)
      have hE := hx14; clear hx14
      refine s_move f (g_none rfl) rfl rfl ?_; clear f a; intro a f
      refine s_call f (g_none rfl) rfl Try.func33 rfl rfl (ev1 f rfl) (signed_calls (m := m) (h1 := (by omega)) (h2 := (by omega)) (w := _) ) ?_
      rintro _ w16 ⟨p17, c18, rfl, hx19, ho20⟩; refine ⟨_, rfl, ?_⟩; clear f a; intro a f
      have hs21 : ∀ b, sblk p17 = some b → sblk p12 ≠ some b := fun b e1 e2 => by have h1 := (ho20.lt e1).1; have h2 := (ho15.lt e2).2; omega
      replace ho20 := ho20.mono (hE.size)
      replace ho15 := ho15.ext hx19
      replace hE := hE.tr hx19
      clear hx19
      refine s_assign f (g_none rfl) rfl rfl ?_; clear f a; intro a f
      refine s_assign f (g_none rfl) rfl rfl ?_; clear f a; intro a f
      refine nil_then ?_
      refine reg_seq ?_
      refine s_move f (g_none rfl) rfl rfl ?_; clear f a; intro a f
      refine s_call f (g_none rfl) rfl Try.func47 rfl rfl (ev1 f rfl) (wbytes_calls (p := p) (b := s) (c := c) (w := _) (hr0 := (hr2.ext hE))) ?_
      rintro _ w22 ⟨q23, d24, rfl, hx25, ho26⟩; refine ⟨_, rfl, ?_⟩; clear f a; intro a f
      have hs27 : ∀ b, sblk q23 = some b → sblk p12 ≠ some b := fun b e1 e2 => by have h1 := (ho26.lt e1).1; have h2 := (ho15.lt e2).2; omega
      have hs28 : ∀ b, sblk q23 = some b → sblk p17 ≠ some b := fun b e1 e2 => by have h1 := (ho26.lt e1).1; have h2 := (ho20.lt e2).2; omega
      replace ho26 := ho26.mono (hE.size)
      replace ho15 := ho15.ext hx25
      replace ho20 := ho20.ext hx25
      replace hE := hE.tr hx25
      clear hx25
      refine s_move f (g_none rfl) rfl rfl ?_; clear f a; intro a f
      refine s_extract (v := .slice q23 ((bytesOf s).1).length d24) f (g_none rfl) rfl rfl rfl ?_; clear f a; intro a f
      refine s_extract (v := .int .i64 (((bytesOf s).2 : Nat) : Int)) f (g_none rfl) rfl rfl rfl ?_; clear f a; intro a f
      refine s_assign f (g_none rfl) rfl rfl ?_; clear f a; intro a f
      refine s_assign f (g_none rfl) rfl rfl ?_; clear f a; intro a f
      refine nil_then ?_
      refine reg_seq ?_
      refine t_lit (E := bytesE) (l := []) (B := w.heap.size) f (g_none rfl) rfl Try.underlying32 ti5 rfl (pt0 f) (by decide) (fill_lit [] rfl rfl (by simp [Value.cells])) rfl rfl (hE.size) ?_; clear f a; intro a w34 p29 c30 f hx32 ho31 hn33
      have hs35 : ∀ b, sblk p29 = some b → sblk p12 ≠ some b := fun b e1 e2 => by have h1 := hn33 _ e1; have h2 := (ho15.lt e2).2; omega
      have hs36 : ∀ b, sblk p29 = some b → sblk p17 ≠ some b := fun b e1 e2 => by have h1 := hn33 _ e1; have h2 := (ho20.lt e2).2; omega
      have hs37 : ∀ b, sblk p29 = some b → sblk q23 ≠ some b := fun b e1 e2 => by have h1 := hn33 _ e1; have h2 := (ho26.lt e2).2; omega
      replace ho15 := ho15.ext hx32
      replace ho20 := ho20.ext hx32
      replace ho26 := ho26.ext hx32
      replace hE := hE.tr hx32
      clear hx32
      clear hn33
      refine s_move f (g_none rfl) rfl rfl ?_; clear f a; intro a f
      refine t_append (E := bytesE) (l := []) (m := numBytes n) (lm := numBytes n) (B := w.heap.size) f (g_none rfl) rfl Try.underlying32 ti5 rfl rfl rfl ho31 (ho15.rd) (by first | omega | (simp; omega)) (by first | omega | (simp; omega)) (hE.size) (List.nil_append _) ?_; clear f a; intro a w43 p38 c39 f ho40 hg41 hn42
      have hs44 : ∀ b, sblk p38 = some b → sblk p12 ≠ some b := fun b e1 e2 => (hn42 _ e1).elim (fun h1 => (by have h3 := hs35; first | exact h3 b h1 e2 | exact h3 b e2 h1)) (fun h1 => by have h2 := (ho15.lt e2).2; omega)
      have hs45 : ∀ b, sblk p38 = some b → sblk p17 ≠ some b := fun b e1 e2 => (hn42 _ e1).elim (fun h1 => (by have h3 := hs36; first | exact h3 b h1 e2 | exact h3 b e2 h1)) (fun h1 => by have h2 := (ho20.lt e2).2; omega)
      have hs46 : ∀ b, sblk p38 = some b → sblk q23 ≠ some b := fun b e1 e2 => (hn42 _ e1).elim (fun h1 => (by have h3 := hs37; first | exact h3 b h1 e2 | exact h3 b e2 h1)) (fun h1 => by have h2 := (ho26.lt e2).2; omega)
      replace ho15 := ho15.gr' hg41 (by intro b e e2; first | exact hs35 b e e2 | exact hs35 b e2 e)
      replace ho20 := ho20.gr' hg41 (by intro b e e2; first | exact hs36 b e e2 | exact hs36 b e2 e)
      replace ho26 := ho26.gr' hg41 (by intro b e e2; first | exact hs37 b e e2 | exact hs37 b e2 e)
      replace hE := hE.gr hg41 (fun b e => (ho31.lt e).1)
      clear hg41
      clear ho31
      clear hn42
      refine s_move f (g_none rfl) rfl rfl ?_; clear f a; intro a f
      refine t_append (E := bytesE) (l := numBytes n) (m := b) (lm := numBytes n ++ b) (B := w.heap.size) f (g_none rfl) rfl Try.underlying32 ti5 rfl rfl rfl ho40 (hr3.ext hE) (by first | omega | (simp; omega)) (by first | omega | (simp; omega)) (hE.size) rfl ?_; clear f a; intro a w52 p47 c48 f ho49 hg50 hn51
      have hs53 : ∀ b, sblk p47 = some b → sblk p12 ≠ some b := fun b e1 e2 => (hn51 _ e1).elim (fun h1 => (by have h3 := hs44; first | exact h3 b h1 e2 | exact h3 b e2 h1)) (fun h1 => by have h2 := (ho15.lt e2).2; omega)
      have hs54 : ∀ b, sblk p47 = some b → sblk p17 ≠ some b := fun b e1 e2 => (hn51 _ e1).elim (fun h1 => (by have h3 := hs45; first | exact h3 b h1 e2 | exact h3 b e2 h1)) (fun h1 => by have h2 := (ho20.lt e2).2; omega)
      have hs55 : ∀ b, sblk p47 = some b → sblk q23 ≠ some b := fun b e1 e2 => (hn51 _ e1).elim (fun h1 => (by have h3 := hs46; first | exact h3 b h1 e2 | exact h3 b e2 h1)) (fun h1 => by have h2 := (ho26.lt e2).2; omega)
      replace ho15 := ho15.gr' hg50 (by intro b e e2; first | exact hs44 b e e2 | exact hs44 b e2 e)
      replace ho20 := ho20.gr' hg50 (by intro b e e2; first | exact hs45 b e e2 | exact hs45 b e2 e)
      replace ho26 := ho26.gr' hg50 (by intro b e e2; first | exact hs46 b e e2 | exact hs46 b e2 e)
      replace hE := hE.gr hg50 (fun b e => (ho40.lt e).1)
      clear hg50
      clear ho40
      clear hn51
      refine s_call f (g_none rfl) rfl Try.func26 rfl rfl (ev1 f rfl) (readn_calls (p := p47) (b := numBytes n ++ b) (c := c48) (w := _) (hr0 := (ho49.rd))) ?_
      rintro _ _ ⟨rfl, rfl⟩; refine ⟨_, rfl, ?_⟩; clear f a; intro a f
      refine s_move f (g_none rfl) rfl rfl ?_; clear f a; intro a f
      refine s_extract (v := .int .u64 (((readN (numBytes n ++ b)).1 : Nat) : Int)) f (g_none rfl) rfl rfl rfl ?_; clear f a; intro a f
      refine s_extract (v := .int .i64 (((readN (numBytes n ++ b)).2.1 : Nat) : Int)) f (g_none rfl) rfl rfl rfl ?_; clear f a; intro a f
      refine s_extract (v := .int .i64 (((readN (numBytes n ++ b)).2.2 : Nat) : Int)) f (g_none rfl) rfl rfl rfl ?_; clear f a; intro a f
      refine s_assign f (g_none rfl) rfl rfl ?_; clear f a; intro a f
      refine s_assign f (g_none rfl) rfl rfl ?_; clear f a; intro a f
      refine s_assign f (g_none rfl) rfl rfl ?_; clear f a; intro a f
      refine nil_then ?_
      refine reg_seq ?_
      refine t_lit (E := bytesE) (l := []) (B := w.heap.size) f (g_none rfl) rfl Try.underlying32 ti5 rfl (pt0 f) (by decide) (fill_lit [] rfl rfl (by simp [Value.cells])) rfl rfl (hE.size) ?_; clear f a; intro a w62 p57 c58 f hx60 ho59 hn61
      have hs63 : ∀ b, sblk p57 = some b → sblk p12 ≠ some b := fun b e1 e2 => by have h1 := hn61 _ e1; have h2 := (ho15.lt e2).2; omega
      have hs64 : ∀ b, sblk p57 = some b → sblk p17 ≠ some b := fun b e1 e2 => by have h1 := hn61 _ e1; have h2 := (ho20.lt e2).2; omega
      have hs65 : ∀ b, sblk p57 = some b → sblk q23 ≠ some b := fun b e1 e2 => by have h1 := hn61 _ e1; have h2 := (ho26.lt e2).2; omega
      have hs66 : ∀ b, sblk p57 = some b → sblk p47 ≠ some b := fun b e1 e2 => by have h1 := hn61 _ e1; have h2 := (ho49.lt e2).2; omega
      replace ho15 := ho15.ext hx60
      replace ho20 := ho20.ext hx60
      replace ho26 := ho26.ext hx60
      replace ho49 := ho49.ext hx60
      replace hE := hE.tr hx60
      clear hx60
      clear hn61
      refine s_move f (g_none rfl) rfl rfl ?_; clear f a; intro a f
      refine t_append (E := bytesE) (l := []) (m := numBytes (zig m)) (lm := numBytes (zig m)) (B := w.heap.size) f (g_none rfl) rfl Try.underlying32 ti5 rfl rfl rfl ho59 (ho20.rd) (by first | omega | (simp; omega)) (by first | omega | (simp; omega)) (hE.size) (List.nil_append _) ?_; clear f a; intro a w72 p67 c68 f ho69 hg70 hn71
      have hs73 : ∀ b, sblk p67 = some b → sblk p12 ≠ some b := fun b e1 e2 => (hn71 _ e1).elim (fun h1 => (by have h3 := hs63; first | exact h3 b h1 e2 | exact h3 b e2 h1)) (fun h1 => by have h2 := (ho15.lt e2).2; omega)
      have hs74 : ∀ b, sblk p67 = some b → sblk p17 ≠ some b := fun b e1 e2 => (hn71 _ e1).elim (fun h1 => (by have h3 := hs64; first | exact h3 b h1 e2 | exact h3 b e2 h1)) (fun h1 => by have h2 := (ho20.lt e2).2; omega)
      have hs75 : ∀ b, sblk p67 = some b → sblk q23 ≠ some b := fun b e1 e2 => (hn71 _ e1).elim (fun h1 => (by have h3 := hs65; first | exact h3 b h1 e2 | exact h3 b e2 h1)) (fun h1 => by have h2 := (ho26.lt e2).2; omega)
      have hs76 : ∀ b, sblk p67 = some b → sblk p47 ≠ some b := fun b e1 e2 => (hn71 _ e1).elim (fun h1 => (by have h3 := hs66; first | exact h3 b h1 e2 | exact h3 b e2 h1)) (fun h1 => by have h2 := (ho49.lt e2).2; omega)
      replace ho15 := ho15.gr' hg70 (by intro b e e2; first | exact hs63 b e e2 | exact hs63 b e2 e)
      replace ho20 := ho20.gr' hg70 (by intro b e e2; first | exact hs64 b e e2 | exact hs64 b e2 e)
      replace ho26 := ho26.gr' hg70 (by intro b e e2; first | exact hs65 b e e2 | exact hs65 b e2 e)
      replace ho49 := ho49.gr' hg70 (by intro b e e2; first | exact hs66 b e e2 | exact hs66 b e2 e)
      replace hE := hE.gr hg70 (fun b e => (ho59.lt e).1)
      clear hg70
      clear ho59
      clear hn71
      refine s_move f (g_none rfl) rfl rfl ?_; clear f a; intro a f
      refine t_append (E := bytesE) (l := numBytes (zig m)) (m := b) (lm := numBytes (zig m) ++ b) (B := w.heap.size) f (g_none rfl) rfl Try.underlying32 ti5 rfl rfl rfl ho69 (hr3.ext hE) (by first | omega | (simp; omega)) (by first | omega | (simp; omega)) (hE.size) rfl ?_; clear f a; intro a w82 p77 c78 f ho79 hg80 hn81
      have hs83 : ∀ b, sblk p77 = some b → sblk p12 ≠ some b := fun b e1 e2 => (hn81 _ e1).elim (fun h1 => (by have h3 := hs73; first | exact h3 b h1 e2 | exact h3 b e2 h1)) (fun h1 => by have h2 := (ho15.lt e2).2; omega)
      have hs84 : ∀ b, sblk p77 = some b → sblk p17 ≠ some b := fun b e1 e2 => (hn81 _ e1).elim (fun h1 => (by have h3 := hs74; first | exact h3 b h1 e2 | exact h3 b e2 h1)) (fun h1 => by have h2 := (ho20.lt e2).2; omega)
      have hs85 : ∀ b, sblk p77 = some b → sblk q23 ≠ some b := fun b e1 e2 => (hn81 _ e1).elim (fun h1 => (by have h3 := hs75; first | exact h3 b h1 e2 | exact h3 b e2 h1)) (fun h1 => by have h2 := (ho26.lt e2).2; omega)
      have hs86 : ∀ b, sblk p77 = some b → sblk p47 ≠ some b := fun b e1 e2 => (hn81 _ e1).elim (fun h1 => (by have h3 := hs76; first | exact h3 b h1 e2 | exact h3 b e2 h1)) (fun h1 => by have h2 := (ho49.lt e2).2; omega)
      replace ho15 := ho15.gr' hg80 (by intro b e e2; first | exact hs73 b e e2 | exact hs73 b e2 e)
      replace ho20 := ho20.gr' hg80 (by intro b e e2; first | exact hs74 b e e2 | exact hs74 b e2 e)
      replace ho26 := ho26.gr' hg80 (by intro b e e2; first | exact hs75 b e e2 | exact hs75 b e2 e)
      replace ho49 := ho49.gr' hg80 (by intro b e e2; first | exact hs76 b e e2 | exact hs76 b e2 e)
      replace hE := hE.gr hg80 (fun b e => (ho69.lt e).1)
      clear hg80
      clear ho69
      clear hn81
      refine s_call f (g_none rfl) rfl Try.func28 rfl rfl (ev1 f rfl) (reads_calls (p := p77) (b := numBytes (zig m) ++ b) (c := c78) (w := _) (hr0 := (ho79.rd))) ?_
      rintro _ _ ⟨rfl, rfl⟩; refine ⟨_, rfl, ?_⟩; clear f a; intro a f
      refine s_move f (g_none rfl) rfl rfl ?_; clear f a; intro a f
      refine s_extract (v := .int .i64 ((readS (numBytes (zig m) ++ b)).1)) f (g_none rfl) rfl rfl rfl ?_; clear f a; intro a f
      refine s_extract (v := .int .i64 (((readS (numBytes (zig m) ++ b)).2.1 : Nat) : Int)) f (g_none rfl) rfl rfl rfl ?_; clear f a; intro a f
      refine s_extract (v := .int .i64 (((readS (numBytes (zig m) ++ b)).2.2 : Nat) : Int)) f (g_none rfl) rfl rfl rfl ?_; clear f a; intro a f
      refine s_assign f (g_none rfl) rfl rfl ?_; clear f a; intro a f
      refine s_assign f (g_none rfl) rfl rfl ?_; clear f a; intro a f
      refine s_assign f (g_none rfl) rfl rfl ?_; clear f a; intro a f
      refine nil_then ?_
      refine reg_seq ?_
      refine t_lit (E := bytesE) (l := []) (B := w.heap.size) f (g_none rfl) rfl Try.underlying32 ti5 rfl (pt0 f) (by decide) (fill_lit [] rfl rfl (by simp [Value.cells])) rfl rfl (hE.size) ?_; clear f a; intro a w93 p88 c89 f hx91 ho90 hn92
      have hs94 : ∀ b, sblk p88 = some b → sblk p12 ≠ some b := fun b e1 e2 => by have h1 := hn92 _ e1; have h2 := (ho15.lt e2).2; omega
      have hs95 : ∀ b, sblk p88 = some b → sblk p17 ≠ some b := fun b e1 e2 => by have h1 := hn92 _ e1; have h2 := (ho20.lt e2).2; omega
      have hs96 : ∀ b, sblk p88 = some b → sblk q23 ≠ some b := fun b e1 e2 => by have h1 := hn92 _ e1; have h2 := (ho26.lt e2).2; omega
      have hs97 : ∀ b, sblk p88 = some b → sblk p47 ≠ some b := fun b e1 e2 => by have h1 := hn92 _ e1; have h2 := (ho49.lt e2).2; omega
      have hs98 : ∀ b, sblk p88 = some b → sblk p77 ≠ some b := fun b e1 e2 => by have h1 := hn92 _ e1; have h2 := (ho79.lt e2).2; omega
      replace ho15 := ho15.ext hx91
      replace ho20 := ho20.ext hx91
      replace ho26 := ho26.ext hx91
      replace ho49 := ho49.ext hx91
      replace ho79 := ho79.ext hx91
      replace hE := hE.tr hx91
      clear hx91
      clear hn92
      refine s_move f (g_none rfl) rfl rfl ?_; clear f a; intro a f
      refine t_append (E := bytesE) (l := []) (m := (bytesOf s).1) (lm := (bytesOf s).1) (B := w.heap.size) f (g_none rfl) rfl Try.underlying32 ti5 rfl rfl rfl ho90 (ho26.rd) (by first | omega | (simp; omega)) (by first | omega | (simp; omega)) (hE.size) (List.nil_append _) ?_; clear f a; intro a w104 p99 c100 f ho101 hg102 hn103
      have hs105 : ∀ b, sblk p99 = some b → sblk p12 ≠ some b := fun b e1 e2 => (hn103 _ e1).elim (fun h1 => (by have h3 := hs94; first | exact h3 b h1 e2 | exact h3 b e2 h1)) (fun h1 => by have h2 := (ho15.lt e2).2; omega)
      have hs106 : ∀ b, sblk p99 = some b → sblk p17 ≠ some b := fun b e1 e2 => (hn103 _ e1).elim (fun h1 => (by have h3 := hs95; first | exact h3 b h1 e2 | exact h3 b e2 h1)) (fun h1 => by have h2 := (ho20.lt e2).2; omega)
      have hs107 : ∀ b, sblk p99 = some b → sblk q23 ≠ some b := fun b e1 e2 => (hn103 _ e1).elim (fun h1 => (by have h3 := hs96; first | exact h3 b h1 e2 | exact h3 b e2 h1)) (fun h1 => by have h2 := (ho26.lt e2).2; omega)
      have hs108 : ∀ b, sblk p99 = some b → sblk p47 ≠ some b := fun b e1 e2 => (hn103 _ e1).elim (fun h1 => (by have h3 := hs97; first | exact h3 b h1 e2 | exact h3 b e2 h1)) (fun h1 => by have h2 := (ho49.lt e2).2; omega)
      have hs109 : ∀ b, sblk p99 = some b → sblk p77 ≠ some b := fun b e1 e2 => (hn103 _ e1).elim (fun h1 => (by have h3 := hs98; first | exact h3 b h1 e2 | exact h3 b e2 h1)) (fun h1 => by have h2 := (ho79.lt e2).2; omega)
      replace ho15 := ho15.gr' hg102 (by intro b e e2; first | exact hs94 b e e2 | exact hs94 b e2 e)
      replace ho20 := ho20.gr' hg102 (by intro b e e2; first | exact hs95 b e e2 | exact hs95 b e2 e)
      replace ho26 := ho26.gr' hg102 (by intro b e e2; first | exact hs96 b e e2 | exact hs96 b e2 e)
      replace ho49 := ho49.gr' hg102 (by intro b e e2; first | exact hs97 b e e2 | exact hs97 b e2 e)
      replace ho79 := ho79.gr' hg102 (by intro b e e2; first | exact hs98 b e e2 | exact hs98 b e2 e)
      replace hE := hE.gr hg102 (fun b e => (ho90.lt e).1)
      clear hg102
      clear ho90
      clear hn103
      refine s_move f (g_none rfl) rfl rfl ?_; clear f a; intro a f
      refine t_append (E := bytesE) (l := (bytesOf s).1) (m := b) (lm := (bytesOf s).1 ++ b) (B := w.heap.size) f (g_none rfl) rfl Try.underlying32 ti5 rfl rfl rfl ho101 (hr3.ext hE) (by first | omega | (simp; omega)) (by first | omega | (simp; omega)) (hE.size) rfl ?_; clear f a; intro a w115 p110 c111 f ho112 hg113 hn114
      have hs116 : ∀ b, sblk p110 = some b → sblk p12 ≠ some b := fun b e1 e2 => (hn114 _ e1).elim (fun h1 => (by have h3 := hs105; first | exact h3 b h1 e2 | exact h3 b e2 h1)) (fun h1 => by have h2 := (ho15.lt e2).2; omega)
      have hs117 : ∀ b, sblk p110 = some b → sblk p17 ≠ some b := fun b e1 e2 => (hn114 _ e1).elim (fun h1 => (by have h3 := hs106; first | exact h3 b h1 e2 | exact h3 b e2 h1)) (fun h1 => by have h2 := (ho20.lt e2).2; omega)
      have hs118 : ∀ b, sblk p110 = some b → sblk q23 ≠ some b := fun b e1 e2 => (hn114 _ e1).elim (fun h1 => (by have h3 := hs107; first | exact h3 b h1 e2 | exact h3 b e2 h1)) (fun h1 => by have h2 := (ho26.lt e2).2; omega)
      have hs119 : ∀ b, sblk p110 = some b → sblk p47 ≠ some b := fun b e1 e2 => (hn114 _ e1).elim (fun h1 => (by have h3 := hs108; first | exact h3 b h1 e2 | exact h3 b e2 h1)) (fun h1 => by have h2 := (ho49.lt e2).2; omega)
      have hs120 : ∀ b, sblk p110 = some b → sblk p77 ≠ some b := fun b e1 e2 => (hn114 _ e1).elim (fun h1 => (by have h3 := hs109; first | exact h3 b h1 e2 | exact h3 b e2 h1)) (fun h1 => by have h2 := (ho79.lt e2).2; omega)
      replace ho15 := ho15.gr' hg113 (by intro b e e2; first | exact hs105 b e e2 | exact hs105 b e2 e)
      replace ho20 := ho20.gr' hg113 (by intro b e e2; first | exact hs106 b e e2 | exact hs106 b e2 e)
      replace ho26 := ho26.gr' hg113 (by intro b e e2; first | exact hs107 b e e2 | exact hs107 b e2 e)
      replace ho49 := ho49.gr' hg113 (by intro b e e2; first | exact hs108 b e e2 | exact hs108 b e2 e)
      replace ho79 := ho79.gr' hg113 (by intro b e e2; first | exact hs109 b e e2 | exact hs109 b e2 e)
      replace hE := hE.gr hg113 (fun b e => (ho101.lt e).1)
      clear hg113
      clear ho101
      clear hn114
      refine s_call f (g_none rfl) rfl Try.func48 rfl rfl (ev2 f rfl rfl) (readb_calls (p := p110) (b := (bytesOf s).1 ++ b) (c := c111) (m := 1000) (h1 := (by omega)) (h2 := (by omega)) (hb := (by simp; omega)) (w := _) (hr0 := (ho112.rd))) ?_
      rintro _ w121 ⟨q122, d123, rfl, hx124, ho125⟩; refine ⟨_, rfl, ?_⟩; clear f a; intro a f
      have hs126 : ∀ b, sblk q122 = some b → sblk p12 ≠ some b := fun b e1 e2 => by have h1 := (ho125.lt e1).1; have h2 := (ho15.lt e2).2; omega
      have hs127 : ∀ b, sblk q122 = some b → sblk p17 ≠ some b := fun b e1 e2 => by have h1 := (ho125.lt e1).1; have h2 := (ho20.lt e2).2; omega
      have hs128 : ∀ b, sblk q122 = some b → sblk q23 ≠ some b := fun b e1 e2 => by have h1 := (ho125.lt e1).1; have h2 := (ho26.lt e2).2; omega
      have hs129 : ∀ b, sblk q122 = some b → sblk p47 ≠ some b := fun b e1 e2 => by have h1 := (ho125.lt e1).1; have h2 := (ho49.lt e2).2; omega
      have hs130 : ∀ b, sblk q122 = some b → sblk p77 ≠ some b := fun b e1 e2 => by have h1 := (ho125.lt e1).1; have h2 := (ho79.lt e2).2; omega
      have hs131 : ∀ b, sblk q122 = some b → sblk p110 ≠ some b := fun b e1 e2 => by have h1 := (ho125.lt e1).1; have h2 := (ho112.lt e2).2; omega
      replace ho125 := ho125.mono (hE.size)
      replace ho15 := ho15.ext hx124
      replace ho20 := ho20.ext hx124
      replace ho26 := ho26.ext hx124
      replace ho49 := ho49.ext hx124
      replace ho79 := ho79.ext hx124
      replace ho112 := ho112.ext hx124
      replace hE := hE.tr hx124
      clear hx124
      refine s_move f (g_none rfl) rfl rfl ?_; clear f a; intro a f
      refine s_extract (v := .slice q122 ((partL ((bytesOf s).1 ++ b) 1000 1).1).length d123) f (g_none rfl) rfl rfl rfl ?_; clear f a; intro a f
      refine s_extract (v := .int .i64 (((partL ((bytesOf s).1 ++ b) 1000 1).2.1 : Nat) : Int)) f (g_none rfl) rfl rfl rfl ?_; clear f a; intro a f
      refine s_extract (v := .int .i64 (((partL ((bytesOf s).1 ++ b) 1000 1).2.2 : Nat) : Int)) f (g_none rfl) rfl rfl rfl ?_; clear f a; intro a f
      refine s_assign f (g_none rfl) rfl rfl ?_; clear f a; intro a f
      refine s_assign f (g_none rfl) rfl rfl ?_; clear f a; intro a f
      refine s_assign f (g_none rfl) rfl rfl ?_; clear f a; intro a f
      refine nil_then ?_
      refine wp_seq ?_
      refine reg_seq ?_
      refine s_move f (g_none rfl) rfl rfl ?_; clear f a; intro a f
      refine s_bin (v := .bool (decide ((((bytesOf s).2 : Nat) : Int) ≠ 0))) f (g_none rfl) rfl rfl rfl arith_neq ?_; clear f a; intro a f
      refine s_move f (g_none rfl) rfl rfl ?_; clear f a; intro a f
      have hb132 : (decide ((((bytesOf s).2 : Nat) : Int) ≠ 0)) = false := decide_eq_false (by rw [hzz]; simp)
      rw [hb132] at f
      refine s_move f (g_yes f rfl rfl rfl) rfl rfl ?_; clear f a; intro a f
      refine s_bin (v := .bool (decide ((((readN (numBytes n ++ b)).2.2 : Nat) : Int) ≠ 0))) f (g_yes f rfl rfl rfl) rfl rfl rfl arith_neq ?_; clear f a; intro a f
      refine s_pick (r := .bool (decide ((((readN (numBytes n ++ b)).2.2 : Nat) : Int) ≠ 0))) f (g_none rfl) rfl rfl rfl rfl rfl ?_; clear f a; intro a f
      refine s_move f (g_none rfl) rfl rfl ?_; clear f a; intro a f
      have hb133 : (decide ((((readN (numBytes n ++ b)).2.2 : Nat) : Int) ≠ 0)) = false := decide_eq_false (by rw [hx1]; simp)
      rw [hb133] at f
      refine s_move f (g_yes f rfl rfl rfl) rfl rfl ?_; clear f a; intro a f
      refine s_bin (v := .bool (decide ((((readS (numBytes (zig m) ++ b)).2.2 : Nat) : Int) ≠ 0))) f (g_yes f rfl rfl rfl) rfl rfl rfl arith_neq ?_; clear f a; intro a f
      refine s_pick (r := .bool (decide ((((readS (numBytes (zig m) ++ b)).2.2 : Nat) : Int) ≠ 0))) f (g_none rfl) rfl rfl rfl rfl rfl ?_; clear f a; intro a f
      refine s_move f (g_none rfl) rfl rfl ?_; clear f a; intro a f
      have hb134 : (decide ((((readS (numBytes (zig m) ++ b)).2.2 : Nat) : Int) ≠ 0)) = false := decide_eq_false (by rw [hy1]; simp)
      rw [hb134] at f
      refine s_move f (g_yes f rfl rfl rfl) rfl rfl ?_; clear f a; intro a f
      refine s_bin (v := .bool (decide ((((partL ((bytesOf s).1 ++ b) 1000 1).2.2 : Nat) : Int) ≠ 0))) f (g_yes f rfl rfl rfl) rfl rfl rfl arith_neq ?_; clear f a; intro a f
      refine s_pick (r := .bool (decide ((((partL ((bytesOf s).1 ++ b) 1000 1).2.2 : Nat) : Int) ≠ 0))) f (g_none rfl) rfl rfl rfl rfl rfl ?_; clear f a; intro a f
      refine s_move f (g_none rfl) rfl rfl ?_; clear f a; intro a f
      have hb135 : (decide ((((partL ((bytesOf s).1 ++ b) 1000 1).2.2 : Nat) : Int) ≠ 0)) = false := decide_eq_false (by rw [hz1]; simp)
      rw [hb135] at f
      refine s_move f (g_yes f rfl rfl rfl) rfl rfl ?_; clear f a; intro a f
      refine s_move f (g_yes f rfl rfl rfl) rfl rfl ?_; clear f a; intro a f
      refine s_bin (v := .bool (decide ((((readN (numBytes n ++ b)).1 : Nat) : Int) ≠ ((n : Nat) : Int)))) f (g_yes f rfl rfl rfl) rfl rfl rfl arith_neq ?_; clear f a; intro a f
      refine s_pick (r := .bool (decide ((((readN (numBytes n ++ b)).1 : Nat) : Int) ≠ ((n : Nat) : Int)))) f (g_none rfl) rfl rfl rfl rfl rfl ?_; clear f a; intro a f
      refine s_move f (g_none rfl) rfl rfl ?_; clear f a; intro a f
      have hb136 : (decide ((((readN (numBytes n ++ b)).1 : Nat) : Int) ≠ ((n : Nat) : Int))) = false := decide_eq_false (by rw [hx1]; omega)
      rw [hb136] at f
      refine s_move f (g_yes f rfl rfl rfl) rfl rfl ?_; clear f a; intro a f
      refine s_move f (g_yes f rfl rfl rfl) rfl rfl ?_; clear f a; intro a f
      refine t_len f (g_yes f rfl rfl rfl) rfl rfl Try.underlying32 rfl ?_; clear f a; intro a f
      refine s_bin (v := .bool (decide ((((readN (numBytes n ++ b)).2.1 : Nat) : Int) ≠ (((numBytes n).length : Nat) : Int)))) f (g_yes f rfl rfl rfl) rfl rfl rfl arith_neq ?_; clear f a; intro a f
      refine s_pick (r := .bool (decide ((((readN (numBytes n ++ b)).2.1 : Nat) : Int) ≠ (((numBytes n).length : Nat) : Int)))) f (g_none rfl) rfl rfl rfl rfl rfl ?_; clear f a; intro a f
      refine s_move f (g_none rfl) rfl rfl ?_; clear f a; intro a f
      have hb137 : (decide ((((readN (numBytes n ++ b)).2.1 : Nat) : Int) ≠ (((numBytes n).length : Nat) : Int))) = false := decide_eq_false (by rw [hx1]; simp)
      rw [hb137] at f
      refine s_move f (g_yes f rfl rfl rfl) rfl rfl ?_; clear f a; intro a f
      refine s_move f (g_yes f rfl rfl rfl) rfl rfl ?_; clear f a; intro a f
      refine s_bin (v := .bool (decide ((readS (numBytes (zig m) ++ b)).1 ≠ m))) f (g_yes f rfl rfl rfl) rfl rfl rfl arith_neq ?_; clear f a; intro a f
      refine s_pick (r := .bool (decide ((readS (numBytes (zig m) ++ b)).1 ≠ m))) f (g_none rfl) rfl rfl rfl rfl rfl ?_; clear f a; intro a f
      refine s_move f (g_none rfl) rfl rfl ?_; clear f a; intro a f
      have hb138 : (decide ((readS (numBytes (zig m) ++ b)).1 ≠ m)) = false := decide_eq_false (by rw [hy1]; omega)
      rw [hb138] at f
      refine s_move f (g_yes f rfl rfl rfl) rfl rfl ?_; clear f a; intro a f
      refine s_move f (g_yes f rfl rfl rfl) rfl rfl ?_; clear f a; intro a f
      refine t_len f (g_yes f rfl rfl rfl) rfl rfl Try.underlying32 rfl ?_; clear f a; intro a f
      refine s_bin (v := .bool (decide ((((readS (numBytes (zig m) ++ b)).2.1 : Nat) : Int) ≠ (((numBytes (zig m)).length : Nat) : Int)))) f (g_yes f rfl rfl rfl) rfl rfl rfl arith_neq ?_; clear f a; intro a f
      refine s_pick (r := .bool (decide ((((readS (numBytes (zig m) ++ b)).2.1 : Nat) : Int) ≠ (((numBytes (zig m)).length : Nat) : Int)))) f (g_none rfl) rfl rfl rfl rfl rfl ?_; clear f a; intro a f
      refine s_move f (g_none rfl) rfl rfl ?_; clear f a; intro a f
      have hb139 : (decide ((((readS (numBytes (zig m) ++ b)).2.1 : Nat) : Int) ≠ (((numBytes (zig m)).length : Nat) : Int))) = false := decide_eq_false (by rw [hy1]; simp)
      rw [hb139] at f
      refine s_move f (g_yes f rfl rfl rfl) rfl rfl ?_; clear f a; intro a f
      refine s_move f (g_yes f rfl rfl rfl) rfl rfl ?_; clear f a; intro a f
      refine s_call f (g_yes f rfl rfl rfl) rfl Try.func30 rfl rfl (ev2 f rfl rfl) (same_calls (p := q122) (x := (partL ((bytesOf s).1 ++ b) 1000 1).1) (c := d123) (q := p) (y := s) (d := c) (w := _) (hr0 := (ho125.rd)) (hr1 := (hr2.ext hE))) ?_
      rintro _ w140 ⟨rfl, hx141⟩; refine ⟨_, rfl, ?_⟩; clear f a; intro a f
      replace ho15 := ho15.ext hx141
      replace ho20 := ho20.ext hx141
      replace ho26 := ho26.ext hx141
      replace ho49 := ho49.ext hx141
      replace ho79 := ho79.ext hx141
      replace ho112 := ho112.ext hx141
      replace ho125 := ho125.ext hx141
      replace hE := hE.tr hx141
      clear hx141
      refine s_not f (g_yes f rfl rfl rfl) rfl rfl ?_; clear f a; intro a f
      rw [← decide_not] at f
      refine s_pick (r := .bool (decide (¬ (((partL ((bytesOf s).1 ++ b) 1000 1).1) = s)))) f (g_none rfl) rfl rfl rfl rfl rfl ?_; clear f a; intro a f
      refine s_move f (g_none rfl) rfl rfl ?_; clear f a; intro a f
      have hb142 : (decide (¬ (((partL ((bytesOf s).1 ++ b) 1000 1).1) = s))) = false := decide_eq_false (by rw [hz1]; simp)
      rw [hb142] at f
      refine s_move f (g_yes f rfl rfl rfl) rfl rfl ?_; clear f a; intro a f
      refine s_move f (g_yes f rfl rfl rfl) rfl rfl ?_; clear f a; intro a f
      refine t_len f (g_yes f rfl rfl rfl) rfl rfl Try.underlying32 rfl ?_; clear f a; intro a f
      refine s_bin (v := .bool (decide ((((partL ((bytesOf s).1 ++ b) 1000 1).2.1 : Nat) : Int) ≠ ((((bytesOf s).1).length : Nat) : Int)))) f (g_yes f rfl rfl rfl) rfl rfl rfl arith_neq ?_; clear f a; intro a f
      refine s_pick (r := .bool (decide ((((partL ((bytesOf s).1 ++ b) 1000 1).2.1 : Nat) : Int) ≠ ((((bytesOf s).1).length : Nat) : Int)))) f (g_none rfl) rfl rfl rfl rfl rfl ?_; clear f a; intro a f
      refine s_move f (g_none rfl) rfl rfl ?_; clear f a; intro a f
      have hb143 : (decide ((((partL ((bytesOf s).1 ++ b) 1000 1).2.1 : Nat) : Int) ≠ ((((bytesOf s).1).length : Nat) : Int))) = false := decide_eq_false (by rw [hz1]; simp)
      rw [hb143] at f
      refine s_move f (g_yes f rfl rfl rfl) rfl rfl ?_; clear f a; intro a f
      refine t_len f (g_yes f rfl rfl rfl) rfl rfl Try.underlying32 rfl ?_; clear f a; intro a f
      refine s_bin (v := .bool (decide ((((numBytes n).length : Nat) : Int) = 0))) f (g_yes f rfl rfl rfl) rfl rfl rfl arith_eql ?_; clear f a; intro a f
      refine s_pick (r := .bool (decide ((((numBytes n).length : Nat) : Int) = 0))) f (g_none rfl) rfl rfl rfl rfl rfl ?_; clear f a; intro a f
      refine s_move f (g_none rfl) rfl rfl ?_; clear f a; intro a f
      have hb144 : (decide ((((numBytes n).length : Nat) : Int) = 0)) = false := decide_eq_false (by omega)
      rw [hb144] at f
      refine s_move f (g_yes f rfl rfl rfl) rfl rfl ?_; clear f a; intro a f
      refine t_len f (g_yes f rfl rfl rfl) rfl rfl Try.underlying32 rfl ?_; clear f a; intro a f
      refine s_bin (v := .bool (decide (((((bytesOf s).1).length : Nat) : Int) = 0))) f (g_yes f rfl rfl rfl) rfl rfl rfl arith_eql ?_; clear f a; intro a f
      refine s_pick (r := .bool (decide (((((bytesOf s).1).length : Nat) : Int) = 0))) f (g_none rfl) rfl rfl rfl rfl rfl ?_; clear f a; intro a f
      refine nil_then ?_
      have hb145 : (decide (((((bytesOf s).1).length : Nat) : Int) = 0)) = false := decide_eq_false (by omega)
      rw [hb145] at f
      refine c_false f rfl ?_
      refine wp_skip ?_
      refine then_n ?_
      refine reg_seq ?_
      refine s_move f (g_none rfl) rfl rfl ?_; clear f a; intro a f
      refine s_move f (g_none rfl) rfl rfl ?_; clear f a; intro a f
      refine t_len f (g_none rfl) rfl rfl Try.underlying32 rfl ?_; clear f a; intro a f
      refine s_bin f (g_none rfl) rfl rfl rfl (arith_sub (r := ((((numBytes n).length) - 1 : Nat) : Int)) (wrap_i64 (by omega) (by omega))) ?_; clear f a; intro a f
      refine t_cut (i := 0) (j := ((numBytes n).length) - 1) (E := bytesE) (l' := (numBytes n).take ((numBytes n).length - 1)) f (g_none rfl) rfl Try.underlying32 ti5 rfl (ho15.rd) (.inl ⟨rfl, rfl⟩) (.inr ⟨_, _, rfl, rfl⟩) (by omega) (by omega) (cut_hi _ _) ?_; clear f a; intro a p146 c147 f hs148 hq149
      have hr150 := hs148 _ ho15.rd
      refine s_call f (g_none rfl) rfl Try.func26 rfl rfl (ev1 f rfl) (readn_calls (p := p146) (b := (numBytes n).take ((numBytes n).length - 1)) (c := c147) (w := _) (hr0 := hr150)) ?_
      rintro _ _ ⟨rfl, rfl⟩; refine ⟨_, rfl, ?_⟩; clear f a; intro a f
      refine s_move f (g_none rfl) rfl rfl ?_; clear f a; intro a f
      refine s_extract (v := .int .u64 (((readN ((numBytes n).take ((numBytes n).length - 1))).1 : Nat) : Int)) f (g_none rfl) rfl rfl rfl ?_; clear f a; intro a f
      refine s_extract (v := .int .i64 (((readN ((numBytes n).take ((numBytes n).length - 1))).2.1 : Nat) : Int)) f (g_none rfl) rfl rfl rfl ?_; clear f a; intro a f
      refine s_extract (v := .int .i64 (((readN ((numBytes n).take ((numBytes n).length - 1))).2.2 : Nat) : Int)) f (g_none rfl) rfl rfl rfl ?_; clear f a; intro a f
      refine s_assign f (g_none rfl) rfl rfl ?_; clear f a; intro a f
      refine s_assign f (g_none rfl) rfl rfl ?_; clear f a; intro a f
      refine s_assign f (g_none rfl) rfl rfl ?_; clear f a; intro a f
      refine nil_then ?_
      refine reg_seq ?_
      refine s_move f (g_none rfl) rfl rfl ?_; clear f a; intro a f
      refine s_move f (g_none rfl) rfl rfl ?_; clear f a; intro a f
      refine t_len f (g_none rfl) rfl rfl Try.underlying32 rfl ?_; clear f a; intro a f
      refine s_bin f (g_none rfl) rfl rfl rfl (arith_sub (r := (((((bytesOf s).1).length) - 1 : Nat) : Int)) (wrap_i64 (by omega) (by omega))) ?_; clear f a; intro a f
      refine t_cut (i := 0) (j := (((bytesOf s).1).length) - 1) (E := bytesE) (l' := ((bytesOf s).1).take (((bytesOf s).1).length - 1)) f (g_none rfl) rfl Try.underlying32 ti5 rfl (ho26.rd) (.inl ⟨rfl, rfl⟩) (.inr ⟨_, _, rfl, rfl⟩) (by omega) (by omega) (cut_hi _ _) ?_; clear f a; intro a p152 c153 f hs154 hq155
      have hr156 := hs154 _ ho26.rd
      refine s_call f (g_none rfl) rfl Try.func48 rfl rfl (ev2 f rfl rfl) (readb_calls (p := p152) (b := ((bytesOf s).1).take (((bytesOf s).1).length - 1)) (c := c153) (m := 1000) (h1 := (by omega)) (h2 := (by omega)) (hb := (by simp; omega)) (w := _) (hr0 := hr156)) ?_
      rintro _ w157 ⟨q158, d159, rfl, hx160, ho161⟩; refine ⟨_, rfl, ?_⟩; clear f a; intro a f
      have hs162 : ∀ b, sblk q158 = some b → sblk p12 ≠ some b := fun b e1 e2 => by have h1 := (ho161.lt e1).1; have h2 := (ho15.lt e2).2; omega
      have hs163 : ∀ b, sblk q158 = some b → sblk p17 ≠ some b := fun b e1 e2 => by have h1 := (ho161.lt e1).1; have h2 := (ho20.lt e2).2; omega
      have hs164 : ∀ b, sblk q158 = some b → sblk q23 ≠ some b := fun b e1 e2 => by have h1 := (ho161.lt e1).1; have h2 := (ho26.lt e2).2; omega
      have hs165 : ∀ b, sblk q158 = some b → sblk p47 ≠ some b := fun b e1 e2 => by have h1 := (ho161.lt e1).1; have h2 := (ho49.lt e2).2; omega
      have hs166 : ∀ b, sblk q158 = some b → sblk p77 ≠ some b := fun b e1 e2 => by have h1 := (ho161.lt e1).1; have h2 := (ho79.lt e2).2; omega
      have hs167 : ∀ b, sblk q158 = some b → sblk p110 ≠ some b := fun b e1 e2 => by have h1 := (ho161.lt e1).1; have h2 := (ho112.lt e2).2; omega
      have hs168 : ∀ b, sblk q158 = some b → sblk q122 ≠ some b := fun b e1 e2 => by have h1 := (ho161.lt e1).1; have h2 := (ho125.lt e2).2; omega
      replace ho161 := ho161.mono (hE.size)
      replace ho15 := ho15.ext hx160
      replace ho20 := ho20.ext hx160
      replace ho26 := ho26.ext hx160
      replace ho49 := ho49.ext hx160
      replace ho79 := ho79.ext hx160
      replace ho112 := ho112.ext hx160
      replace ho125 := ho125.ext hx160
      replace hr150 := hr150.ext hx160
      replace hr156 := hr156.ext hx160
      replace hE := hE.tr hx160
      clear hx160
      refine s_move f (g_none rfl) rfl rfl ?_; clear f a; intro a f
      refine s_extract (v := .slice q158 ((partL (((bytesOf s).1).take (((bytesOf s).1).length - 1)) 1000 1).1).length d159) f (g_none rfl) rfl rfl rfl ?_; clear f a; intro a f
      refine s_extract (v := .int .i64 (((partL (((bytesOf s).1).take (((bytesOf s).1).length - 1)) 1000 1).2.1 : Nat) : Int)) f (g_none rfl) rfl rfl rfl ?_; clear f a; intro a f
      refine s_extract (v := .int .i64 (((partL (((bytesOf s).1).take (((bytesOf s).1).length - 1)) 1000 1).2.2 : Nat) : Int)) f (g_none rfl) rfl rfl rfl ?_; clear f a; intro a f
      refine s_assign f (g_none rfl) rfl rfl ?_; clear f a; intro a f
      refine s_assign f (g_none rfl) rfl rfl ?_; clear f a; intro a f
      refine s_assign f (g_none rfl) rfl rfl ?_; clear f a; intro a f
      refine nil_then ?_
      refine wp_seq ?_
      refine reg_seq ?_
      have hcx := readN_cut hn (j := (numBytes n).length - 1) (by omega)
      have hcz : partL ((bytesOf s).1.take ((bytesOf s).1.length - 1)) 1000 1 = ([], 0, 12) := by rw [hzz]; exact partL_cut (by omega) (by omega) (by decide) (by omega) (by simp; omega)
      have hep := partL_err b (most := 1000) (by decide) 1
      refine s_move f (g_none rfl) rfl rfl ?_; clear f a; intro a f
      refine s_bin (v := .bool (decide ((((readN ((numBytes n).take ((numBytes n).length - 1))).2.2 : Nat) : Int) ≠ 12))) f (g_none rfl) rfl rfl rfl arith_neq ?_; clear f a; intro a f
      refine s_move f (g_none rfl) rfl rfl ?_; clear f a; intro a f
      have hb171 : (decide ((((readN ((numBytes n).take ((numBytes n).length - 1))).2.2 : Nat) : Int) ≠ 12)) = false := decide_eq_false (by rw [hcx]; simp)
      rw [hb171] at f
      refine s_move f (g_yes f rfl rfl rfl) rfl rfl ?_; clear f a; intro a f
      refine s_bin (v := .bool (decide ((((partL (((bytesOf s).1).take (((bytesOf s).1).length - 1)) 1000 1).2.2 : Nat) : Int) ≠ 12))) f (g_yes f rfl rfl rfl) rfl rfl rfl arith_neq ?_; clear f a; intro a f
      refine s_pick (r := .bool (decide ((((partL (((bytesOf s).1).take (((bytesOf s).1).length - 1)) 1000 1).2.2 : Nat) : Int) ≠ 12))) f (g_none rfl) rfl rfl rfl rfl rfl ?_; clear f a; intro a f
      refine nil_then ?_
      have hb172 : (decide ((((partL (((bytesOf s).1).take (((bytesOf s).1).length - 1)) 1000 1).2.2 : Nat) : Int) ≠ 12)) = false := decide_eq_false (by rw [hcz]; simp)
      rw [hb172] at f
      refine c_false f rfl ?_
      refine wp_skip ?_
      refine then_n ?_
      refine wp_seq ?_
      refine reg_seq ?_
      refine s_move f (g_none rfl) rfl rfl ?_; clear f a; intro a f
      refine s_call f (g_none rfl) rfl Try.func26 rfl rfl (ev1 f rfl) (readn_calls (p := q) (b := b) (c := d) (w := _) (hr0 := (hr3.ext hE))) ?_
      rintro _ _ ⟨rfl, rfl⟩; refine ⟨_, rfl, ?_⟩; clear f a; intro a f
      refine s_move f (g_none rfl) rfl rfl ?_; clear f a; intro a f
      refine s_extract (v := .int .u64 (((readN b).1 : Nat) : Int)) f (g_none rfl) rfl rfl rfl ?_; clear f a; intro a f
      refine s_extract (v := .int .i64 (((readN b).2.1 : Nat) : Int)) f (g_none rfl) rfl rfl rfl ?_; clear f a; intro a f
      refine s_extract (v := .int .i64 (((readN b).2.2 : Nat) : Int)) f (g_none rfl) rfl rfl rfl ?_; clear f a; intro a f
      refine s_assign f (g_none rfl) rfl rfl ?_; clear f a; intro a f
      refine s_assign f (g_none rfl) rfl rfl ?_; clear f a; intro a f
      refine s_assign f (g_none rfl) rfl rfl ?_; clear f a; intro a f
      refine nil_then ?_
      refine reg_seq ?_
      refine s_move f (g_none rfl) rfl rfl ?_; clear f a; intro a f
      refine s_bin (v := .bool (decide ((((readN b).2.2 : Nat) : Int) = 0))) f (g_none rfl) rfl rfl rfl arith_eql ?_; clear f a; intro a f
      refine nil_then ?_
      by_cases hc174 : (((readN b).2.2 : Nat) : Int) = 0
      · skip
        have hb175 : (decide ((((readN b).2.2 : Nat) : Int) = 0)) = true := decide_eq_true hc174
        rw [hb175] at f
        have hrb := readN_back2 (b := b) (by have := hc174; omega)
        refine c_true f rfl ?_
        have ho15s := ho15
        have ho20s := ho20
        have ho26s := ho26
        have ho49s := ho49
        have ho79s := ho79
        have ho112s := ho112
        have ho125s := ho125
        have hr150s := hr150
        have hr156s := hr156
        have ho161s := ho161
        have hEs := hE
        refine held_seq (Ext w157) mixed rfl rfl ?_; intro w176 hx177
        have hS := hx177
        replace ho15 := ho15.ext hx177
        replace ho20 := ho20.ext hx177
        replace ho26 := ho26.ext hx177
        replace ho49 := ho49.ext hx177
        replace ho79 := ho79.ext hx177
        replace ho112 := ho112.ext hx177
        replace ho125 := ho125.ext hx177
        replace hr150 := hr150.ext hx177
        replace hr156 := hr156.ext hx177
        replace ho161 := ho161.ext hx177
        replace hE := hE.tr hx177
        clear hx177
        refine h_take f 0 rfl (by kernel_rfl) (by kernel_rfl) (by kernel_rfl) (fun _ _ _ h => h) (g_none rfl) rfl (fun wq hq => r_move f rfl) hS rfl ?_; clear f a; intro a f
        refine h_take f 1 rfl (by kernel_rfl) (by kernel_rfl) (by kernel_rfl) (fun _ _ _ h => h) (g_none rfl) rfl (fun wq hq => r_bin f rfl rfl rfl) hS rfl ?_; clear f a; intro a f
        refine h_take f 2 rfl (by kernel_rfl) (by kernel_rfl) (by kernel_rfl) (fun _ _ _ h => h) (g_none rfl) rfl (fun wq hq => r_move f rfl) hS rfl ?_; clear f a; intro a f
        have hb178 : (decide ((((readN b).2.1 : Nat) : Int) < 1)) = false := decide_eq_false (by omega)
        rw [hb178] at f
        refine h_take f 3 rfl (by kernel_rfl) (by kernel_rfl) (by kernel_rfl) (fun _ _ _ h => h) (g_yes f rfl rfl rfl) rfl (fun wq hq => r_move f rfl) hS rfl ?_; clear f a; intro a f
        refine h_take f 4 rfl (by kernel_rfl) (by kernel_rfl) (by kernel_rfl) (fun _ _ _ h => h) (g_yes f rfl rfl rfl) rfl (fun wq hq => r_move f rfl) hS rfl ?_; clear f a; intro a f
        refine h_take f 5 rfl (by kernel_rfl) (by kernel_rfl) (by kernel_rfl) (fun _ _ _ h => h) (g_yes f rfl rfl rfl) rfl (fun wq hq => rt_len f rfl Try.underlying32 rfl) hS rfl ?_; clear f a; intro a f
        refine h_take f 6 rfl (by kernel_rfl) (by kernel_rfl) (by kernel_rfl) (fun _ _ _ h => h) (g_yes f rfl rfl rfl) rfl (fun wq hq => r_bin f rfl rfl rfl) hS rfl ?_; clear f a; intro a f
        refine h_take f 7 rfl (by kernel_rfl) (by kernel_rfl) (by kernel_rfl) (fun _ _ _ h => h) (g_none rfl) rfl (fun wq hq => r_pick (r := .bool (decide (((b.length : Nat) : Int) < (((readN b).2.1 : Nat) : Int)))) f rfl rfl rfl rfl) hS rfl ?_; clear f a; intro a f
        refine h_take f 8 rfl (by kernel_rfl) (by kernel_rfl) (by kernel_rfl) (fun _ _ _ h => h) (g_none rfl) rfl (fun wq hq => r_move f rfl) hS rfl ?_; clear f a; intro a f
        have hb179 : (decide (((b.length : Nat) : Int) < (((readN b).2.1 : Nat) : Int))) = false := decide_eq_false (by omega)
        rw [hb179] at f
        refine h_take f 9 rfl (by kernel_rfl) (by kernel_rfl) (by kernel_rfl) (fun _ _ _ h => h) (g_yes f rfl rfl rfl) rfl (fun wq hq => r_move f rfl) hS rfl ?_; clear f a; intro a f
        refine h_take f 11 rfl (by kernel_rfl) (by kernel_rfl) (by kernel_rfl) (fun _ _ _ h => h) (g_yes f rfl rfl rfl) rfl (fun wq hq => r_move f rfl) hS rfl ?_; clear f a; intro a f
        refine h_take f 12 rfl (by kernel_rfl) (by kernel_rfl) (by kernel_rfl) (fun _ _ _ h => h) (g_yes f rfl rfl rfl) rfl (fun wq hq => r_move f rfl) hS rfl ?_; clear f a; intro a f
        refine h_cut (i := 0) (j := (readN b).2.1) (E := bytesE) (l' := b.take (readN b).2.1) f 13 rfl (by kernel_rfl) (by kernel_rfl) (by kernel_rfl) (fun _ _ _ _ h => h) (g_yes f rfl rfl rfl) rfl Try.underlying32 ti5 rfl (hr3.ext hE) (.inl ⟨rfl, rfl⟩) (.inr ⟨_, _, rfl, rfl⟩) (by omega) (by omega) (cut_hi _ _) hS rfl ?_; clear f a; intro a p180 c181 f hs182 hq183
        have hr184 := hs182 _ hr3
        refine h_call f 10 rfl (by kernel_rfl) rfl (g_yes f rfl rfl rfl) rfl Try.func31 rfl rfl (ev1 f rfl) (number_calls (n := (readN b).1) (hn := (by omega)) (w := _) ) ?_
        rintro _ w185 ⟨p186, c187, rfl, hx188, ho189⟩
        have hs190 : ∀ b, sblk p186 = some b → sblk p12 ≠ some b := fun b e1 e2 => by have h1 := (ho189.lt e1).1; have h2 := (ho15.lt e2).2; omega
        have hs191 : ∀ b, sblk p186 = some b → sblk p17 ≠ some b := fun b e1 e2 => by have h1 := (ho189.lt e1).1; have h2 := (ho20.lt e2).2; omega
        have hs192 : ∀ b, sblk p186 = some b → sblk q23 ≠ some b := fun b e1 e2 => by have h1 := (ho189.lt e1).1; have h2 := (ho26.lt e2).2; omega
        have hs193 : ∀ b, sblk p186 = some b → sblk p47 ≠ some b := fun b e1 e2 => by have h1 := (ho189.lt e1).1; have h2 := (ho49.lt e2).2; omega
        have hs194 : ∀ b, sblk p186 = some b → sblk p77 ≠ some b := fun b e1 e2 => by have h1 := (ho189.lt e1).1; have h2 := (ho79.lt e2).2; omega
        have hs195 : ∀ b, sblk p186 = some b → sblk p110 ≠ some b := fun b e1 e2 => by have h1 := (ho189.lt e1).1; have h2 := (ho112.lt e2).2; omega
        have hs196 : ∀ b, sblk p186 = some b → sblk q122 ≠ some b := fun b e1 e2 => by have h1 := (ho189.lt e1).1; have h2 := (ho125.lt e2).2; omega
        have hs199 : ∀ b, sblk p186 = some b → sblk q158 ≠ some b := fun b e1 e2 => by have h1 := (ho189.lt e1).1; have h2 := (ho161.lt e2).2; omega
        replace ho189 := ho189.mono (hE.size)
        replace ho15 := ho15.ext hx188
        replace ho20 := ho20.ext hx188
        replace ho26 := ho26.ext hx188
        replace ho49 := ho49.ext hx188
        replace ho79 := ho79.ext hx188
        replace ho112 := ho112.ext hx188
        replace ho125 := ho125.ext hx188
        replace hr150 := hr150.ext hx188
        replace hr156 := hr156.ext hx188
        replace ho161 := ho161.ext hx188
        replace hS := hS.tr hx188
        replace hE := hE.tr hx188
        clear hx188
        refine ⟨_, rfl, hS, ?_⟩; clear f a; intro a f
        refine h_call f 14 rfl (by kernel_rfl) rfl (g_yes f rfl rfl rfl) rfl Try.func30 rfl rfl (ev2 f rfl rfl) (same_calls (p := p186) (x := numBytes ((readN b).1)) (c := c187) (q := p180) (y := b.take (readN b).2.1) (d := c181) (w := _) (hr0 := (ho189.rd)) (hr1 := (hr184.ext hE))) ?_
        rintro _ w200 ⟨rfl, hx201⟩
        replace ho15 := ho15.ext hx201
        replace ho20 := ho20.ext hx201
        replace ho26 := ho26.ext hx201
        replace ho49 := ho49.ext hx201
        replace ho79 := ho79.ext hx201
        replace ho112 := ho112.ext hx201
        replace ho125 := ho125.ext hx201
        replace hr150 := hr150.ext hx201
        replace hr156 := hr156.ext hx201
        replace ho161 := ho161.ext hx201
        replace ho189 := ho189.ext hx201
        replace hS := hS.tr hx201
        replace hE := hE.tr hx201
        clear hx201
        refine ⟨_, rfl, hS, ?_⟩; clear f a; intro a f
        refine h_take f 15 rfl (by kernel_rfl) (by kernel_rfl) (by kernel_rfl) (fun _ _ _ h => h) (g_yes f rfl rfl rfl) rfl (fun wq hq => r_not f rfl) hS rfl ?_; clear f a; intro a f
        rw [← decide_not] at f
        refine h_take f 16 rfl (by kernel_rfl) (by kernel_rfl) (by kernel_rfl) (fun _ _ _ h => h) (g_none rfl) rfl (fun wq hq => r_pick (r := .bool (decide (¬ ((numBytes ((readN b).1)) = (b.take (readN b).2.1))))) f rfl rfl rfl rfl) hS rfl ?_; clear f a; intro a f
        refine h_done (by kernel_rfl) ?_
        clear hS
        refine then_n ?_
        have hb202 : (decide (¬ ((numBytes ((readN b).1)) = (b.take (readN b).2.1)))) = false := decide_eq_false (by simp [hrb.1])
        rw [hb202] at f
        refine c_false f rfl ?_
        refine wp_skip ?_
        refine then_n ?_
        refine reg_seq ?_
        refine s_move f (g_none rfl) rfl rfl ?_; clear f a; intro a f
        refine s_call f (g_none rfl) rfl Try.func48 rfl rfl (ev2 f rfl rfl) (readb_calls (p := q) (b := b) (c := d) (m := 1000) (h1 := (by omega)) (h2 := (by omega)) (hb := (by omega)) (w := _) (hr0 := (hr3.ext hE))) ?_
        rintro _ w203 ⟨q204, d205, rfl, hx206, ho207⟩; refine ⟨_, rfl, ?_⟩; clear f a; intro a f
        have hs208 : ∀ b, sblk q204 = some b → sblk p12 ≠ some b := fun b e1 e2 => by have h1 := (ho207.lt e1).1; have h2 := (ho15.lt e2).2; omega
        have hs209 : ∀ b, sblk q204 = some b → sblk p17 ≠ some b := fun b e1 e2 => by have h1 := (ho207.lt e1).1; have h2 := (ho20.lt e2).2; omega
        have hs210 : ∀ b, sblk q204 = some b → sblk q23 ≠ some b := fun b e1 e2 => by have h1 := (ho207.lt e1).1; have h2 := (ho26.lt e2).2; omega
        have hs211 : ∀ b, sblk q204 = some b → sblk p47 ≠ some b := fun b e1 e2 => by have h1 := (ho207.lt e1).1; have h2 := (ho49.lt e2).2; omega
        have hs212 : ∀ b, sblk q204 = some b → sblk p77 ≠ some b := fun b e1 e2 => by have h1 := (ho207.lt e1).1; have h2 := (ho79.lt e2).2; omega
        have hs213 : ∀ b, sblk q204 = some b → sblk p110 ≠ some b := fun b e1 e2 => by have h1 := (ho207.lt e1).1; have h2 := (ho112.lt e2).2; omega
        have hs214 : ∀ b, sblk q204 = some b → sblk q122 ≠ some b := fun b e1 e2 => by have h1 := (ho207.lt e1).1; have h2 := (ho125.lt e2).2; omega
        have hs217 : ∀ b, sblk q204 = some b → sblk q158 ≠ some b := fun b e1 e2 => by have h1 := (ho207.lt e1).1; have h2 := (ho161.lt e2).2; omega
        have hs218 : ∀ b, sblk q204 = some b → sblk p186 ≠ some b := fun b e1 e2 => by have h1 := (ho207.lt e1).1; have h2 := (ho189.lt e2).2; omega
        replace ho207 := ho207.mono (hE.size)
        replace ho15 := ho15.ext hx206
        replace ho20 := ho20.ext hx206
        replace ho26 := ho26.ext hx206
        replace ho49 := ho49.ext hx206
        replace ho79 := ho79.ext hx206
        replace ho112 := ho112.ext hx206
        replace ho125 := ho125.ext hx206
        replace hr150 := hr150.ext hx206
        replace hr156 := hr156.ext hx206
        replace ho161 := ho161.ext hx206
        replace ho189 := ho189.ext hx206
        replace hE := hE.tr hx206
        clear hx206
        refine s_move f (g_none rfl) rfl rfl ?_; clear f a; intro a f
        refine s_extract (v := .slice q204 ((partL b 1000 1).1).length d205) f (g_none rfl) rfl rfl rfl ?_; clear f a; intro a f
        refine s_extract (v := .int .i64 (((partL b 1000 1).2.1 : Nat) : Int)) f (g_none rfl) rfl rfl rfl ?_; clear f a; intro a f
        refine s_extract (v := .int .i64 (((partL b 1000 1).2.2 : Nat) : Int)) f (g_none rfl) rfl rfl rfl ?_; clear f a; intro a f
        refine s_assign f (g_none rfl) rfl rfl ?_; clear f a; intro a f
        refine s_assign f (g_none rfl) rfl rfl ?_; clear f a; intro a f
        refine s_assign f (g_none rfl) rfl rfl ?_; clear f a; intro a f
        refine nil_then ?_
        refine wp_seq ?_
        refine reg_seq ?_
        refine s_move f (g_none rfl) rfl rfl ?_; clear f a; intro a f
        refine s_bin (v := .bool (decide ((((partL b 1000 1).2.2 : Nat) : Int) ≠ 0))) f (g_none rfl) rfl rfl rfl arith_neq ?_; clear f a; intro a f
        refine nil_then ?_
        by_cases hc219 : (((partL b 1000 1).2.2 : Nat) : Int) ≠ 0
        · skip
          have hb220 : (decide ((((partL b 1000 1).2.2 : Nat) : Int) ≠ 0)) = true := decide_eq_true hc219
          rw [hb220] at f
          refine c_true f rfl ?_
          refine reg_seq ?_
          refine s_move f (g_none rfl) rfl rfl ?_; clear f a; intro a f
          refine s_bin (v := .bool (decide ((((partL b 1000 1).2.2 : Nat) : Int) = 12))) f (g_none rfl) rfl rfl rfl arith_eql ?_; clear f a; intro a f
          refine s_move f (g_none rfl) rfl rfl ?_; clear f a; intro a f
          have hb221 : (decide ((((partL b 1000 1).2.2 : Nat) : Int) = 12)) = true := decide_eq_true (by omega)
          rw [hb221] at f
          refine s_call f (g_yes f rfl rfl rfl) rfl Try.func36 rfl rfl (by simp only [List.map_toArray, List.map_cons, List.map_nil]) (alive_calls  (w := _) ) ?_
          rintro _ w222 ⟨rfl, hx223⟩; refine ⟨_, rfl, ?_⟩; clear f a; intro a f
          replace ho15 := ho15.ext hx223
          replace ho20 := ho20.ext hx223
          replace ho26 := ho26.ext hx223
          replace ho49 := ho49.ext hx223
          replace ho79 := ho79.ext hx223
          replace ho112 := ho112.ext hx223
          replace ho125 := ho125.ext hx223
          replace hr150 := hr150.ext hx223
          replace hr156 := hr156.ext hx223
          replace ho161 := ho161.ext hx223
          replace ho189 := ho189.ext hx223
          replace ho207 := ho207.ext hx223
          replace hE := hE.tr hx223
          clear hx223
          refine s_pick (r := .bool true) f (g_none rfl) rfl rfl rfl rfl rfl ?_; clear f a; intro a f
          refine s_assign f (g_none rfl) rfl rfl ?_; clear f a; intro a f
          refine nil_then ?_
          refine wp_ret ?_
          refine then_r ?_
          refine retG (vs := [.bool true]) f rfl ⟨rfl, trivial⟩ ?_
          exact ⟨congrArg Ending.returned (rfl), hE⟩
        · skip
          have hb224 : (decide ((((partL b 1000 1).2.2 : Nat) : Int) ≠ 0)) = false := decide_eq_false hc219
          rw [hb224] at f
          have hbk := bytesOf_back (b := b) (by have := hc219; omega)
          refine c_false f rfl ?_
          refine wp_skip ?_
          refine then_n ?_
          refine reg_seq ?_
          refine s_move f (g_none rfl) rfl rfl ?_; clear f a; intro a f
          refine s_call f (g_none rfl) rfl Try.func47 rfl rfl (ev1 f rfl) (wbytes_calls (p := q204) (b := (partL b 1000 1).1) (c := d205) (w := _) (hr0 := (ho207.rd))) ?_
          rintro _ w225 ⟨q226, d227, rfl, hx228, ho229⟩; refine ⟨_, rfl, ?_⟩; clear f a; intro a f
          have hs230 : ∀ b, sblk q226 = some b → sblk p12 ≠ some b := fun b e1 e2 => by have h1 := (ho229.lt e1).1; have h2 := (ho15.lt e2).2; omega
          have hs231 : ∀ b, sblk q226 = some b → sblk p17 ≠ some b := fun b e1 e2 => by have h1 := (ho229.lt e1).1; have h2 := (ho20.lt e2).2; omega
          have hs232 : ∀ b, sblk q226 = some b → sblk q23 ≠ some b := fun b e1 e2 => by have h1 := (ho229.lt e1).1; have h2 := (ho26.lt e2).2; omega
          have hs233 : ∀ b, sblk q226 = some b → sblk p47 ≠ some b := fun b e1 e2 => by have h1 := (ho229.lt e1).1; have h2 := (ho49.lt e2).2; omega
          have hs234 : ∀ b, sblk q226 = some b → sblk p77 ≠ some b := fun b e1 e2 => by have h1 := (ho229.lt e1).1; have h2 := (ho79.lt e2).2; omega
          have hs235 : ∀ b, sblk q226 = some b → sblk p110 ≠ some b := fun b e1 e2 => by have h1 := (ho229.lt e1).1; have h2 := (ho112.lt e2).2; omega
          have hs236 : ∀ b, sblk q226 = some b → sblk q122 ≠ some b := fun b e1 e2 => by have h1 := (ho229.lt e1).1; have h2 := (ho125.lt e2).2; omega
          have hs239 : ∀ b, sblk q226 = some b → sblk q158 ≠ some b := fun b e1 e2 => by have h1 := (ho229.lt e1).1; have h2 := (ho161.lt e2).2; omega
          have hs240 : ∀ b, sblk q226 = some b → sblk p186 ≠ some b := fun b e1 e2 => by have h1 := (ho229.lt e1).1; have h2 := (ho189.lt e2).2; omega
          have hs241 : ∀ b, sblk q226 = some b → sblk q204 ≠ some b := fun b e1 e2 => by have h1 := (ho229.lt e1).1; have h2 := (ho207.lt e2).2; omega
          replace ho229 := ho229.mono (hE.size)
          replace ho15 := ho15.ext hx228
          replace ho20 := ho20.ext hx228
          replace ho26 := ho26.ext hx228
          replace ho49 := ho49.ext hx228
          replace ho79 := ho79.ext hx228
          replace ho112 := ho112.ext hx228
          replace ho125 := ho125.ext hx228
          replace hr150 := hr150.ext hx228
          replace hr156 := hr156.ext hx228
          replace ho161 := ho161.ext hx228
          replace ho189 := ho189.ext hx228
          replace ho207 := ho207.ext hx228
          replace hE := hE.tr hx228
          clear hx228
          refine s_move f (g_none rfl) rfl rfl ?_; clear f a; intro a f
          refine s_extract (v := .slice q226 ((bytesOf ((partL b 1000 1).1)).1).length d227) f (g_none rfl) rfl rfl rfl ?_; clear f a; intro a f
          refine s_extract (v := .int .i64 (((bytesOf ((partL b 1000 1).1)).2 : Nat) : Int)) f (g_none rfl) rfl rfl rfl ?_; clear f a; intro a f
          refine s_assign f (g_none rfl) rfl rfl ?_; clear f a; intro a f
          refine s_assign f (g_none rfl) rfl rfl ?_; clear f a; intro a f
          refine nil_then ?_
          refine reg_seq ?_
          refine s_move f (g_none rfl) rfl rfl ?_; clear f a; intro a f
          refine s_bin (v := .bool (decide ((((bytesOf ((partL b 1000 1).1)).2 : Nat) : Int) = 0))) f (g_none rfl) rfl rfl rfl arith_eql ?_; clear f a; intro a f
          refine s_move f (g_none rfl) rfl rfl ?_; clear f a; intro a f
          have hb242 : (decide ((((bytesOf ((partL b 1000 1).1)).2 : Nat) : Int) = 0)) = true := decide_eq_true (by rw [hbk.2.1]; rfl)
          rw [hb242] at f
          refine s_move f (g_yes f rfl rfl rfl) rfl rfl ?_; clear f a; intro a f
          refine s_bin f (g_yes f rfl rfl rfl) rfl rfl rfl rfl ?_; clear f a; intro a f
          refine s_pick (r := .bool (decide (1 ≤ (((partL b 1000 1).2.1 : Nat) : Int)))) f (g_none rfl) rfl rfl rfl rfl rfl ?_; clear f a; intro a f
          refine s_move f (g_none rfl) rfl rfl ?_; clear f a; intro a f
          have hb243 : (decide (1 ≤ (((partL b 1000 1).2.1 : Nat) : Int))) = true := decide_eq_true (by omega)
          rw [hb243] at f
          refine s_move f (g_yes f rfl rfl rfl) rfl rfl ?_; clear f a; intro a f
          refine s_move f (g_yes f rfl rfl rfl) rfl rfl ?_; clear f a; intro a f
          refine t_len f (g_yes f rfl rfl rfl) rfl rfl Try.underlying32 rfl ?_; clear f a; intro a f
          refine s_bin f (g_yes f rfl rfl rfl) rfl rfl rfl rfl ?_; clear f a; intro a f
          refine s_pick (r := .bool (decide ((((partL b 1000 1).2.1 : Nat) : Int) ≤ ((b.length : Nat) : Int)))) f (g_none rfl) rfl rfl rfl rfl rfl ?_; clear f a; intro a f
          refine s_move f (g_none rfl) rfl rfl ?_; clear f a; intro a f
          have hb244 : (decide ((((partL b 1000 1).2.1 : Nat) : Int) ≤ ((b.length : Nat) : Int))) = true := decide_eq_true (by omega)
          rw [hb244] at f
          refine s_move f (g_yes f rfl rfl rfl) rfl rfl ?_; clear f a; intro a f
          refine s_move f (g_yes f rfl rfl rfl) rfl rfl ?_; clear f a; intro a f
          refine s_move f (g_yes f rfl rfl rfl) rfl rfl ?_; clear f a; intro a f
          refine t_cut (i := 0) (j := (partL b 1000 1).2.1) (E := bytesE) (l' := b.take (partL b 1000 1).2.1) f (g_yes f rfl rfl rfl) rfl Try.underlying32 ti5 rfl (hr3.ext hE) (.inl ⟨rfl, rfl⟩) (.inr ⟨_, _, rfl, rfl⟩) (by omega) (by omega) (cut_hi _ _) ?_; clear f a; intro a p245 c246 f hs247 hq248
          have hr249 := hs247 _ hr3
          refine s_call f (g_yes f rfl rfl rfl) rfl Try.func30 rfl rfl (ev2 f rfl rfl) (same_calls (p := q226) (x := (bytesOf ((partL b 1000 1).1)).1) (c := d227) (q := p245) (y := b.take (partL b 1000 1).2.1) (d := c246) (w := _) (hr0 := (ho229.rd)) (hr1 := (hr249.ext hE))) ?_
          rintro _ w250 ⟨rfl, hx251⟩; refine ⟨_, rfl, ?_⟩; clear f a; intro a f
          replace ho15 := ho15.ext hx251
          replace ho20 := ho20.ext hx251
          replace ho26 := ho26.ext hx251
          replace ho49 := ho49.ext hx251
          replace ho79 := ho79.ext hx251
          replace ho112 := ho112.ext hx251
          replace ho125 := ho125.ext hx251
          replace hr150 := hr150.ext hx251
          replace hr156 := hr156.ext hx251
          replace ho161 := ho161.ext hx251
          replace ho189 := ho189.ext hx251
          replace ho207 := ho207.ext hx251
          replace ho229 := ho229.ext hx251
          replace hE := hE.tr hx251
          clear hx251
          refine s_pick (r := .bool (decide (((bytesOf ((partL b 1000 1).1)).1) = (b.take (partL b 1000 1).2.1)))) f (g_none rfl) rfl rfl rfl rfl rfl ?_; clear f a; intro a f
          refine s_move f (g_none rfl) rfl rfl ?_; clear f a; intro a f
          have hb252 : (decide (((bytesOf ((partL b 1000 1).1)).1) = (b.take (partL b 1000 1).2.1))) = true := decide_eq_true (by exact hbk.1)
          rw [hb252] at f
          refine s_call f (g_yes f rfl rfl rfl) rfl Try.func36 rfl rfl (by simp only [List.map_toArray, List.map_cons, List.map_nil]) (alive_calls  (w := _) ) ?_
          rintro _ w253 ⟨rfl, hx254⟩; refine ⟨_, rfl, ?_⟩; clear f a; intro a f
          replace ho15 := ho15.ext hx254
          replace ho20 := ho20.ext hx254
          replace ho26 := ho26.ext hx254
          replace ho49 := ho49.ext hx254
          replace ho79 := ho79.ext hx254
          replace ho112 := ho112.ext hx254
          replace ho125 := ho125.ext hx254
          replace hr150 := hr150.ext hx254
          replace hr156 := hr156.ext hx254
          replace ho161 := ho161.ext hx254
          replace ho189 := ho189.ext hx254
          replace ho207 := ho207.ext hx254
          replace ho229 := ho229.ext hx254
          replace hE := hE.tr hx254
          clear hx254
          refine s_pick (r := .bool true) f (g_none rfl) rfl rfl rfl rfl rfl ?_; clear f a; intro a f
          refine s_assign f (g_none rfl) rfl rfl ?_; clear f a; intro a f
          refine nil_then ?_
          refine wp_ret ?_
          refine retG (vs := [.bool true]) f rfl ⟨rfl, trivial⟩ ?_
          exact ⟨congrArg Ending.returned (rfl), hE⟩
      · skip
        have hb255 : (decide ((((readN b).2.2 : Nat) : Int) = 0)) = false := decide_eq_false hc174
        rw [hb255] at f
        refine c_false f rfl ?_
        refine wp_skip ?_
        refine then_n ?_
        refine reg_seq ?_
        refine s_move f (g_none rfl) rfl rfl ?_; clear f a; intro a f
        refine s_call f (g_none rfl) rfl Try.func48 rfl rfl (ev2 f rfl rfl) (readb_calls (p := q) (b := b) (c := d) (m := 1000) (h1 := (by omega)) (h2 := (by omega)) (hb := (by omega)) (w := _) (hr0 := (hr3.ext hE))) ?_
        rintro _ w256 ⟨q257, d258, rfl, hx259, ho260⟩; refine ⟨_, rfl, ?_⟩; clear f a; intro a f
        have hs261 : ∀ b, sblk q257 = some b → sblk p12 ≠ some b := fun b e1 e2 => by have h1 := (ho260.lt e1).1; have h2 := (ho15.lt e2).2; omega
        have hs262 : ∀ b, sblk q257 = some b → sblk p17 ≠ some b := fun b e1 e2 => by have h1 := (ho260.lt e1).1; have h2 := (ho20.lt e2).2; omega
        have hs263 : ∀ b, sblk q257 = some b → sblk q23 ≠ some b := fun b e1 e2 => by have h1 := (ho260.lt e1).1; have h2 := (ho26.lt e2).2; omega
        have hs264 : ∀ b, sblk q257 = some b → sblk p47 ≠ some b := fun b e1 e2 => by have h1 := (ho260.lt e1).1; have h2 := (ho49.lt e2).2; omega
        have hs265 : ∀ b, sblk q257 = some b → sblk p77 ≠ some b := fun b e1 e2 => by have h1 := (ho260.lt e1).1; have h2 := (ho79.lt e2).2; omega
        have hs266 : ∀ b, sblk q257 = some b → sblk p110 ≠ some b := fun b e1 e2 => by have h1 := (ho260.lt e1).1; have h2 := (ho112.lt e2).2; omega
        have hs267 : ∀ b, sblk q257 = some b → sblk q122 ≠ some b := fun b e1 e2 => by have h1 := (ho260.lt e1).1; have h2 := (ho125.lt e2).2; omega
        have hs270 : ∀ b, sblk q257 = some b → sblk q158 ≠ some b := fun b e1 e2 => by have h1 := (ho260.lt e1).1; have h2 := (ho161.lt e2).2; omega
        replace ho260 := ho260.mono (hE.size)
        replace ho15 := ho15.ext hx259
        replace ho20 := ho20.ext hx259
        replace ho26 := ho26.ext hx259
        replace ho49 := ho49.ext hx259
        replace ho79 := ho79.ext hx259
        replace ho112 := ho112.ext hx259
        replace ho125 := ho125.ext hx259
        replace hr150 := hr150.ext hx259
        replace hr156 := hr156.ext hx259
        replace ho161 := ho161.ext hx259
        replace hE := hE.tr hx259
        clear hx259
        refine s_move f (g_none rfl) rfl rfl ?_; clear f a; intro a f
        refine s_extract (v := .slice q257 ((partL b 1000 1).1).length d258) f (g_none rfl) rfl rfl rfl ?_; clear f a; intro a f
        refine s_extract (v := .int .i64 (((partL b 1000 1).2.1 : Nat) : Int)) f (g_none rfl) rfl rfl rfl ?_; clear f a; intro a f
        refine s_extract (v := .int .i64 (((partL b 1000 1).2.2 : Nat) : Int)) f (g_none rfl) rfl rfl rfl ?_; clear f a; intro a f
        refine s_assign f (g_none rfl) rfl rfl ?_; clear f a; intro a f
        refine s_assign f (g_none rfl) rfl rfl ?_; clear f a; intro a f
        refine s_assign f (g_none rfl) rfl rfl ?_; clear f a; intro a f
        refine nil_then ?_
        refine wp_seq ?_
        refine reg_seq ?_
        refine s_move f (g_none rfl) rfl rfl ?_; clear f a; intro a f
        refine s_bin (v := .bool (decide ((((partL b 1000 1).2.2 : Nat) : Int) ≠ 0))) f (g_none rfl) rfl rfl rfl arith_neq ?_; clear f a; intro a f
        refine nil_then ?_
        by_cases hc271 : (((partL b 1000 1).2.2 : Nat) : Int) ≠ 0
        · skip
          have hb272 : (decide ((((partL b 1000 1).2.2 : Nat) : Int) ≠ 0)) = true := decide_eq_true hc271
          rw [hb272] at f
          refine c_true f rfl ?_
          refine reg_seq ?_
          refine s_move f (g_none rfl) rfl rfl ?_; clear f a; intro a f
          refine s_bin (v := .bool (decide ((((partL b 1000 1).2.2 : Nat) : Int) = 12))) f (g_none rfl) rfl rfl rfl arith_eql ?_; clear f a; intro a f
          refine s_move f (g_none rfl) rfl rfl ?_; clear f a; intro a f
          have hb273 : (decide ((((partL b 1000 1).2.2 : Nat) : Int) = 12)) = true := decide_eq_true (by omega)
          rw [hb273] at f
          refine s_call f (g_yes f rfl rfl rfl) rfl Try.func36 rfl rfl (by simp only [List.map_toArray, List.map_cons, List.map_nil]) (alive_calls  (w := _) ) ?_
          rintro _ w274 ⟨rfl, hx275⟩; refine ⟨_, rfl, ?_⟩; clear f a; intro a f
          replace ho15 := ho15.ext hx275
          replace ho20 := ho20.ext hx275
          replace ho26 := ho26.ext hx275
          replace ho49 := ho49.ext hx275
          replace ho79 := ho79.ext hx275
          replace ho112 := ho112.ext hx275
          replace ho125 := ho125.ext hx275
          replace hr150 := hr150.ext hx275
          replace hr156 := hr156.ext hx275
          replace ho161 := ho161.ext hx275
          replace ho260 := ho260.ext hx275
          replace hE := hE.tr hx275
          clear hx275
          refine s_pick (r := .bool true) f (g_none rfl) rfl rfl rfl rfl rfl ?_; clear f a; intro a f
          refine s_assign f (g_none rfl) rfl rfl ?_; clear f a; intro a f
          refine nil_then ?_
          refine wp_ret ?_
          refine then_r ?_
          refine retG (vs := [.bool true]) f rfl ⟨rfl, trivial⟩ ?_
          exact ⟨congrArg Ending.returned (rfl), hE⟩
        · skip
          have hb276 : (decide ((((partL b 1000 1).2.2 : Nat) : Int) ≠ 0)) = false := decide_eq_false hc271
          rw [hb276] at f
          have hbk := bytesOf_back (b := b) (by have := hc271; omega)
          refine c_false f rfl ?_
          refine wp_skip ?_
          refine then_n ?_
          refine reg_seq ?_
          refine s_move f (g_none rfl) rfl rfl ?_; clear f a; intro a f
          refine s_call f (g_none rfl) rfl Try.func47 rfl rfl (ev1 f rfl) (wbytes_calls (p := q257) (b := (partL b 1000 1).1) (c := d258) (w := _) (hr0 := (ho260.rd))) ?_
          rintro _ w277 ⟨q278, d279, rfl, hx280, ho281⟩; refine ⟨_, rfl, ?_⟩; clear f a; intro a f
          have hs282 : ∀ b, sblk q278 = some b → sblk p12 ≠ some b := fun b e1 e2 => by have h1 := (ho281.lt e1).1; have h2 := (ho15.lt e2).2; omega
          have hs283 : ∀ b, sblk q278 = some b → sblk p17 ≠ some b := fun b e1 e2 => by have h1 := (ho281.lt e1).1; have h2 := (ho20.lt e2).2; omega
          have hs284 : ∀ b, sblk q278 = some b → sblk q23 ≠ some b := fun b e1 e2 => by have h1 := (ho281.lt e1).1; have h2 := (ho26.lt e2).2; omega
          have hs285 : ∀ b, sblk q278 = some b → sblk p47 ≠ some b := fun b e1 e2 => by have h1 := (ho281.lt e1).1; have h2 := (ho49.lt e2).2; omega
          have hs286 : ∀ b, sblk q278 = some b → sblk p77 ≠ some b := fun b e1 e2 => by have h1 := (ho281.lt e1).1; have h2 := (ho79.lt e2).2; omega
          have hs287 : ∀ b, sblk q278 = some b → sblk p110 ≠ some b := fun b e1 e2 => by have h1 := (ho281.lt e1).1; have h2 := (ho112.lt e2).2; omega
          have hs288 : ∀ b, sblk q278 = some b → sblk q122 ≠ some b := fun b e1 e2 => by have h1 := (ho281.lt e1).1; have h2 := (ho125.lt e2).2; omega
          have hs291 : ∀ b, sblk q278 = some b → sblk q158 ≠ some b := fun b e1 e2 => by have h1 := (ho281.lt e1).1; have h2 := (ho161.lt e2).2; omega
          have hs292 : ∀ b, sblk q278 = some b → sblk q257 ≠ some b := fun b e1 e2 => by have h1 := (ho281.lt e1).1; have h2 := (ho260.lt e2).2; omega
          replace ho281 := ho281.mono (hE.size)
          replace ho15 := ho15.ext hx280
          replace ho20 := ho20.ext hx280
          replace ho26 := ho26.ext hx280
          replace ho49 := ho49.ext hx280
          replace ho79 := ho79.ext hx280
          replace ho112 := ho112.ext hx280
          replace ho125 := ho125.ext hx280
          replace hr150 := hr150.ext hx280
          replace hr156 := hr156.ext hx280
          replace ho161 := ho161.ext hx280
          replace ho260 := ho260.ext hx280
          replace hE := hE.tr hx280
          clear hx280
          refine s_move f (g_none rfl) rfl rfl ?_; clear f a; intro a f
          refine s_extract (v := .slice q278 ((bytesOf ((partL b 1000 1).1)).1).length d279) f (g_none rfl) rfl rfl rfl ?_; clear f a; intro a f
          refine s_extract (v := .int .i64 (((bytesOf ((partL b 1000 1).1)).2 : Nat) : Int)) f (g_none rfl) rfl rfl rfl ?_; clear f a; intro a f
          refine s_assign f (g_none rfl) rfl rfl ?_; clear f a; intro a f
          refine s_assign f (g_none rfl) rfl rfl ?_; clear f a; intro a f
          refine nil_then ?_
          refine reg_seq ?_
          refine s_move f (g_none rfl) rfl rfl ?_; clear f a; intro a f
          refine s_bin (v := .bool (decide ((((bytesOf ((partL b 1000 1).1)).2 : Nat) : Int) = 0))) f (g_none rfl) rfl rfl rfl arith_eql ?_; clear f a; intro a f
          refine s_move f (g_none rfl) rfl rfl ?_; clear f a; intro a f
          have hb293 : (decide ((((bytesOf ((partL b 1000 1).1)).2 : Nat) : Int) = 0)) = true := decide_eq_true (by rw [hbk.2.1]; rfl)
          rw [hb293] at f
          refine s_move f (g_yes f rfl rfl rfl) rfl rfl ?_; clear f a; intro a f
          refine s_bin f (g_yes f rfl rfl rfl) rfl rfl rfl rfl ?_; clear f a; intro a f
          refine s_pick (r := .bool (decide (1 ≤ (((partL b 1000 1).2.1 : Nat) : Int)))) f (g_none rfl) rfl rfl rfl rfl rfl ?_; clear f a; intro a f
          refine s_move f (g_none rfl) rfl rfl ?_; clear f a; intro a f
          have hb294 : (decide (1 ≤ (((partL b 1000 1).2.1 : Nat) : Int))) = true := decide_eq_true (by omega)
          rw [hb294] at f
          refine s_move f (g_yes f rfl rfl rfl) rfl rfl ?_; clear f a; intro a f
          refine s_move f (g_yes f rfl rfl rfl) rfl rfl ?_; clear f a; intro a f
          refine t_len f (g_yes f rfl rfl rfl) rfl rfl Try.underlying32 rfl ?_; clear f a; intro a f
          refine s_bin f (g_yes f rfl rfl rfl) rfl rfl rfl rfl ?_; clear f a; intro a f
          refine s_pick (r := .bool (decide ((((partL b 1000 1).2.1 : Nat) : Int) ≤ ((b.length : Nat) : Int)))) f (g_none rfl) rfl rfl rfl rfl rfl ?_; clear f a; intro a f
          refine s_move f (g_none rfl) rfl rfl ?_; clear f a; intro a f
          have hb295 : (decide ((((partL b 1000 1).2.1 : Nat) : Int) ≤ ((b.length : Nat) : Int))) = true := decide_eq_true (by omega)
          rw [hb295] at f
          refine s_move f (g_yes f rfl rfl rfl) rfl rfl ?_; clear f a; intro a f
          refine s_move f (g_yes f rfl rfl rfl) rfl rfl ?_; clear f a; intro a f
          refine s_move f (g_yes f rfl rfl rfl) rfl rfl ?_; clear f a; intro a f
          refine t_cut (i := 0) (j := (partL b 1000 1).2.1) (E := bytesE) (l' := b.take (partL b 1000 1).2.1) f (g_yes f rfl rfl rfl) rfl Try.underlying32 ti5 rfl (hr3.ext hE) (.inl ⟨rfl, rfl⟩) (.inr ⟨_, _, rfl, rfl⟩) (by omega) (by omega) (cut_hi _ _) ?_; clear f a; intro a p296 c297 f hs298 hq299
          have hr300 := hs298 _ hr3
          refine s_call f (g_yes f rfl rfl rfl) rfl Try.func30 rfl rfl (ev2 f rfl rfl) (same_calls (p := q278) (x := (bytesOf ((partL b 1000 1).1)).1) (c := d279) (q := p296) (y := b.take (partL b 1000 1).2.1) (d := c297) (w := _) (hr0 := (ho281.rd)) (hr1 := (hr300.ext hE))) ?_
          rintro _ w301 ⟨rfl, hx302⟩; refine ⟨_, rfl, ?_⟩; clear f a; intro a f
          replace ho15 := ho15.ext hx302
          replace ho20 := ho20.ext hx302
          replace ho26 := ho26.ext hx302
          replace ho49 := ho49.ext hx302
          replace ho79 := ho79.ext hx302
          replace ho112 := ho112.ext hx302
          replace ho125 := ho125.ext hx302
          replace hr150 := hr150.ext hx302
          replace hr156 := hr156.ext hx302
          replace ho161 := ho161.ext hx302
          replace ho260 := ho260.ext hx302
          replace ho281 := ho281.ext hx302
          replace hE := hE.tr hx302
          clear hx302
          refine s_pick (r := .bool (decide (((bytesOf ((partL b 1000 1).1)).1) = (b.take (partL b 1000 1).2.1)))) f (g_none rfl) rfl rfl rfl rfl rfl ?_; clear f a; intro a f
          refine s_move f (g_none rfl) rfl rfl ?_; clear f a; intro a f
          have hb303 : (decide (((bytesOf ((partL b 1000 1).1)).1) = (b.take (partL b 1000 1).2.1))) = true := decide_eq_true (by exact hbk.1)
          rw [hb303] at f
          refine s_call f (g_yes f rfl rfl rfl) rfl Try.func36 rfl rfl (by simp only [List.map_toArray, List.map_cons, List.map_nil]) (alive_calls  (w := _) ) ?_
          rintro _ w304 ⟨rfl, hx305⟩; refine ⟨_, rfl, ?_⟩; clear f a; intro a f
          replace ho15 := ho15.ext hx305
          replace ho20 := ho20.ext hx305
          replace ho26 := ho26.ext hx305
          replace ho49 := ho49.ext hx305
          replace ho79 := ho79.ext hx305
          replace ho112 := ho112.ext hx305
          replace ho125 := ho125.ext hx305
          replace hr150 := hr150.ext hx305
          replace hr156 := hr156.ext hx305
          replace ho161 := ho161.ext hx305
          replace ho260 := ho260.ext hx305
          replace ho281 := ho281.ext hx305
          replace hE := hE.tr hx305
          clear hx305
          refine s_pick (r := .bool true) f (g_none rfl) rfl rfl rfl rfl rfl ?_; clear f a; intro a f
          refine s_assign f (g_none rfl) rfl rfl ?_; clear f a; intro a f
          refine nil_then ?_
          refine wp_ret ?_
          refine retG (vs := [.bool true]) f rfl ⟨rfl, trivial⟩ ?_
          exact ⟨congrArg Ending.returned (rfl), hE⟩

end Go.Proofs.Ytklfgpdfongaeaa
