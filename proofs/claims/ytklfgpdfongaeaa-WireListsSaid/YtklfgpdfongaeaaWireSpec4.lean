/- Lists of ids: what stands behind, what is cut off, and the way back. No program in sight. -/
import Derived.Test.YtklfgpdfongaeaaWireSpec3
namespace Go.Proofs.Ytklfgpdfongaeaa
open Go Go.RowKit
set_option linter.unusedSimpArgs false
set_option linter.unusedVariables false

theorem readI_append {l : List ID32} (h : l.length ≤ 60) (hr : RisingP l) (t : List UInt8) : readI (numBytes l.length ++ flat l ++ t) 60 = (l, (numBytes l.length ++ flat l).length, 0) := by
  have hp := partL_append (q := l.length) (most := 60) (k := 32) (s := flat l) (t := t) (by omega) (by omega) (by decide) (flat_len l)
  rw [readI_ok (by rw [hp]) (by rw [hp]; show RisingP (unflat (flat l)); rw [unflat_flat]; exact hr), hp]
  show (unflat (flat l), _, 0) = _
  rw [unflat_flat]
theorem readI_cut {l : List ID32} (h : l.length ≤ 60) {j : Nat} (hj : j < (numBytes l.length ++ flat l).length) : readI ((numBytes l.length ++ flat l).take j) 60 = ([], 0, 12) := by
  have hp := partL_cut (q := l.length) (most := 60) (k := 32) (s := flat l) (by omega) (by decide) (by decide) (flat_len l) hj
  rw [readI_bad (by rw [hp]; decide), hp]
theorem readI_err (b : List UInt8) {m : Int} (hm : 0 ≤ m) : (readI b m).2.2 = 0 ∨ (readI b m).2.2 = 12 := by
  rcases partL_err b hm 32 with h | h
  · by_cases h2 : RisingP (unflat (partL b m 32).1)
    · rw [readI_ok h h2]; exact .inl rfl
    · rw [readI_no h h2]; exact .inr rfl
  · rw [readI_bad (by omega)]; exact .inr h
theorem readI_back {b : List UInt8} (h : (readI b 60).2.2 = 0) : RisingP (readI b 60).1 ∧ (readI b 60).1.length ≤ 60 ∧ idsOf (readI b 60).1 = (b.take (readI b 60).2.1, 0) ∧ 1 ≤ (readI b 60).2.1 ∧ (readI b 60).2.1 ≤ b.length := by
  by_cases hp : (partL b 60 32).2.2 = 0
  · by_cases h2 : RisingP (unflat (partL b 60 32).1)
    · have hg := readI_ok hp h2
      obtain ⟨q, h3, h4, h5, h6, h7, h8⟩ := partL_back (by decide) hp
      have hl : (unflat (partL b 60 32).1).length = q := by rw [unflat_len, h5, Nat.mul_div_cancel_left _ (by decide)]
      rw [hg]
      refine ⟨h2, by show (unflat _).length ≤ 60; omega, ?_, h7, h8⟩
      show idsOf (unflat _) = _
      rw [idsOf_ok (by omega) h2, hl, flat_unflat h5, h6]
    · rw [readI_no hp h2] at h; exact absurd h (by decide)
  · rw [readI_bad hp] at h; exact absurd h hp
theorem idsOf_says {l : List ID32} (h : l.length ≤ 60) : (decide ((((idsOf l).2 : Nat) : Int) = 0) != decide (RisingP l)) = false := by
  by_cases hr : RisingP l
  · rw [idsOf_ok (by omega) hr]; simp [hr]
  · rw [idsOf_no (by omega) hr]; simp [hr]
end Go.Proofs.Ytklfgpdfongaeaa
