/- What stands behind an encoding, what is cut off, and the way back: of numbers and of parts. No program in sight. -/
import Derived.Test.YtklfgpdfongaeaaWireSpec
namespace Go.Proofs.Ytklfgpdfongaeaa
open Go Go.RowKit
set_option linter.unusedSimpArgs false
set_option linter.unusedVariables false

theorem readN_append {n : Nat} (hn : n < 18446744073709551616) (t : List UInt8) : readN (numBytes n ++ t) = (n, (numBytes n).length, 0) :=
  readN_some ((readNum_some_iff _ n _).2 ⟨hn, rfl, List.take_left' rfl⟩)
theorem readS_append {m : Int} (h1 : -9223372036854775808 ≤ m) (h2 : m ≤ 9223372036854775807) (t : List UInt8) : readS (numBytes (zig m) ++ t) = (m, (numBytes (zig m)).length, 0) := by
  rw [readS_ok (by rw [readN_append (zig_lt h1 h2)]), readN_append (zig_lt h1 h2), unzig_zig]
theorem readNum_take {b : List UInt8} {j n u : Nat} (h : readNum (b.take j) = some (n, u)) : readNum b = some (n, u) ∧ u ≤ j := by
  have hl := readNum_lt h
  rw [List.length_take] at hl
  obtain ⟨a1, a2, a3⟩ := (readNum_some_iff _ _ _).1 h
  have hu : u ≤ j := by omega
  rw [List.take_take, Nat.min_eq_left hu] at a3
  exact ⟨(readNum_some_iff _ _ _).2 ⟨a1, a2, a3⟩, hu⟩
theorem readN_back {b : List UInt8} (h : (readN b).2.2 = 0) : readNum b = some ((readN b).1, (readN b).2.1) := by
  rcases readN_cases b with ⟨_, h1⟩ | ⟨n, u, h1, h2⟩
  · rw [h1] at h; exact absurd h (by decide)
  · rw [h2]; exact h1
theorem readN_back2 {b : List UInt8} (h : (readN b).2.2 = 0) : numBytes (readN b).1 = b.take (readN b).2.1 ∧ 1 ≤ (readN b).2.1 ∧ (readN b).2.1 ≤ b.length ∧ (readN b).1 < 18446744073709551616 ∧ (numBytes (readN b).1).length = (readN b).2.1 := by
  have h1 := readN_back h
  have h2 := readNum_lt h1
  obtain ⟨a1, a2, a3⟩ := (readNum_some_iff _ _ _).1 h1
  exact ⟨a3.symm, h2.2.1, h2.2.2.2, a1, a2.symm⟩
theorem readN_cut {n : Nat} (hn : n < 18446744073709551616) {j : Nat} (h : j < (numBytes n).length) : readN ((numBytes n).take j) = (0, 0, 12) := by
  rcases readN_cases ((numBytes n).take j) with ⟨_, h1⟩ | ⟨n', u, h1, _⟩
  · exact h1
  · have h2 := readNum_take h1
    have h3 : readNum (numBytes n) = some (n, (numBytes n).length) := (readNum_some_iff _ n _).2 ⟨hn, rfl, List.take_length⟩
    rw [h3] at h2; simp only [Option.some.injEq, Prod.mk.injEq] at h2; omega
theorem readS_err (b : List UInt8) : (readS b).2.2 = 0 ∨ (readS b).2.2 = 12 := by
  unfold readS; split
  · exact .inl rfl
  · rcases (readN_lt b).2.2 with h | h
    · exact absurd h (by assumption)
    · exact .inr h
theorem partL_append {q : Nat} (hq : q < 18446744073709551616) {most : Int} (h : (q : Int) ≤ most) {k : Nat} (hk : 1 ≤ k) {s t : List UInt8} (hs : s.length = k * q) :
    partL (numBytes q ++ s ++ t) most k = (s, (numBytes q ++ s).length, 0) := by
  have hr := readN_append hq (s ++ t)
  rw [← List.append_assoc] at hr
  rw [partL_good (by omega)]
  · rw [hr]; dsimp only
    rw [List.append_assoc, List.drop_left, ← hs, List.take_left, List.length_append]
  · rw [hr]; dsimp only
    rintro (h1 | h1 | h1)
    · exact h1 rfl
    · omega
    · have : q ≤ ((numBytes q ++ s ++ t).length - (numBytes q).length) / k := by
        rw [Nat.le_div_iff_mul_le hk, Nat.mul_comm, List.length_append, List.length_append]; omega
      omega
theorem partL_cut {q : Nat} (hq : q < 18446744073709551616) {most : Int} (hm : 0 ≤ most) {k : Nat} (hk : 1 ≤ k) {s : List UInt8} (hs : s.length = k * q) {j : Nat} (hj : j < (numBytes q ++ s).length) :
    partL ((numBytes q ++ s).take j) most k = ([], 0, 12) := by
  refine partL_bad (by omega) ?_
  rcases (readN_lt ((numBytes q ++ s).take j)).2.2 with h | h
  · right; right
    have h1 := readNum_take (readN_back h)
    have h2 := readN_some h1.1
    rw [readN_append hq] at h2
    simp only [Prod.mk.injEq] at h2
    rw [Nat.div_lt_iff_lt_mul hk, List.length_take, ← h2.1, ← h2.2.1, Nat.mul_comm]
    rw [List.length_append] at hj ⊢
    have h4 := (readN_back2 h).2.1; rw [← h2.2.1] at h4
    have h5 := h1.2; rw [← h2.2.1] at h5
    have : q ≠ 0 ∨ q = 0 := by omega
    omega
  · left; omega
theorem partL_err (b : List UInt8) {most : Int} (hm : 0 ≤ most) (k : Nat) : (partL b most k).2.2 = 0 ∨ (partL b most k).2.2 = 12 := by
  by_cases h : (readN b).2.2 ≠ 0 ∨ most < ((readN b).1 : Int) ∨ (b.length - (readN b).2.1) / k < (readN b).1
  · right; rw [partL_bad (by omega) h]
  · left; rw [partL_good (by omega) h]
theorem partL_back {b : List UInt8} {most : Int} (hm : 0 ≤ most) {k : Nat} (h : (partL b most k).2.2 = 0) :
    ∃ q : Nat, q < 18446744073709551616 ∧ (q : Int) ≤ most ∧ (partL b most k).1.length = k * q ∧ numBytes q ++ (partL b most k).1 = b.take (partL b most k).2.1 ∧ 1 ≤ (partL b most k).2.1 ∧ (partL b most k).2.1 ≤ b.length := by
  by_cases hb : (readN b).2.2 ≠ 0 ∨ most < ((readN b).1 : Int) ∨ (b.length - (readN b).2.1) / k < (readN b).1
  · rw [partL_bad (by omega) hb] at h; exact absurd h (by decide)
  · have hg := partL_good (by omega : ¬ most < 0) hb
    have hf := part_fits (b := b) (k := k) (by omega)
    obtain ⟨a1, a2, a3, a4, a5⟩ := readN_back2 (b := b) (by omega)
    refine ⟨(readN b).1, a4, by omega, ?_, ?_, ?_, ?_⟩
    · rw [hg]; show ((b.drop _).take _).length = _; rw [List.length_take, List.length_drop]; omega
    · rw [hg, a1]; exact List.take_add.symm
    · rw [hg]; show 1 ≤ _ + _; omega
    · rw [hg]; show _ + _ ≤ _; omega
/-- The back direction for strings. -/
theorem bytesOf_back {b : List UInt8} (h : (partL b 1000 1).2.2 = 0) : (bytesOf (partL b 1000 1).1).1 = b.take (partL b 1000 1).2.1 ∧ (bytesOf (partL b 1000 1).1).2 = 0 ∧ 1 ≤ (partL b 1000 1).2.1 ∧ (partL b 1000 1).2.1 ≤ b.length := by
  obtain ⟨q, h1, h2, h3, h4, h5, h6⟩ := partL_back (by decide) h
  rw [bytesOf_ok (by omega), h3, Nat.one_mul]
  exact ⟨h4, rfl, h5, h6⟩

end Go.Proofs.Ytklfgpdfongaeaa
