/- Bytes that are equal, whole numbers as bytes. Plain. (From XQEnc.) -/
import Derived.Test.YtklfgpdfongaeaaPFrm
import Derived.Test.YtklfgpdfongaeaaF2
namespace Go.Proofs.Ytklfgpdfongaeaa
open Go
set_option linter.unusedSimpArgs false
set_option linter.unusedVariables false
theorem same_from (a b : List UInt8) (hl : a.length = b.length) (hb : a.length ≤ 9223372036854775807) : ∀ (n i : Nat), a.length - i = n → i ≤ a.length → a.take i = b.take i →
    iter (braidref01_SameBytes_L0 a b) (i : Int) = some (if a = b then .inr () else .inl false) := by
  intro n
  induction n with
  | zero =>
    intro i hn hi he
    have : i = a.length := by omega
    subst this
    refine iter_l ?_
    unfold braidref01_SameBytes_L0
    have e : a = b := by rw [List.take_length, hl, List.take_length] at he; exact he
    rw [if_neg (by simp), if_pos e]
  | succ n ih =>
    intro i hn hi he
    have h1 : i < a.length := by omega
    have h2 : i < b.length := by omega
    have hF : braidref01_SameBytes_L0 a b (i : Int) = if a[i] = b[i] then some (.inr ((i + 1 : Nat) : Int)) else some (.inl (.inl false)) := by
      unfold braidref01_SameBytes_L0
      rw [if_pos (by simp <;> omega)]
      simp only [idx_nat h1, idx_nat h2, bs, w64_nat (show i < 9223372036854775807 by omega)]
      by_cases h : a[i] = b[i] <;> simp [h]
    by_cases h : a[i] = b[i]
    · rw [if_pos h] at hF
      rw [iter_r hF]
      exact ih (i + 1) (by omega) (by omega) (by rw [List.take_succ_eq_append_getElem h1, List.take_succ_eq_append_getElem h2, he, h])
    · rw [if_neg h] at hF
      rw [iter_l hF, if_neg (fun e => h (by subst e; rfl))]
theorem sameB_eq (a b : List UInt8) (hb : a.length ≤ 9223372036854775807) : braidref01_SameBytes a b = some (decide (a = b)) := by
  unfold braidref01_SameBytes
  by_cases hl : a.length = b.length
  · rw [if_neg (by simp [hl])]
    have := same_from a b hl hb _ 0 rfl (by omega) (by simp)
    rw [show (0 : Int) = ((0 : Nat) : Int) from rfl, this]
    by_cases h : a = b
    · rw [if_pos h, decide_eq_true h]; rfl
    · rw [if_neg h, decide_eq_false h]; rfl
  · rw [if_pos (by simp; omega), decide_eq_false (fun e => hl (by rw [e]))]
/-! ### whole numbers as bytes -/
theorem xor_ones (x : UInt64) : (x ^^^ 18446744073709551615).toNat = 18446744073709551615 - x.toNat := by
  have e : x ^^^ 18446744073709551615 = ~~~x := by
    apply UInt64.eq_of_toBitVec_eq
    rw [UInt64.toBitVec_xor, UInt64.toBitVec_not]
    exact BitVec.xor_allOnes
  rw [e, UInt64.toNat_not]; rfl
theorem ofInt_toNat (n : Int) : (UInt64.ofInt n).toNat = (n % 18446744073709551616).toNat := by
  simp [UInt64.ofInt]; omega
theorem zig_u (n : Int) (h : inI n) : ((shl64 (UInt64.ofInt n) 1) ^^^ (UInt64.ofInt (shrI n 63))).toNat = zig n := by
  obtain ⟨h1, h2⟩ := h
  have es : (shl64 (UInt64.ofInt n) 1).toNat = (n % 18446744073709551616).toNat * 2 % 18446744073709551616 := by
    rw [shl64_toNat, ofInt_toNat]; rfl
  by_cases h0 : 0 ≤ n
  · have e : shrI n 63 = 0 := by
      unfold shrI
      rw [show (2 : Int) ^ (min 63 64) = 9223372036854775808 from rfl, Int.fdiv_eq_ediv_of_nonneg _ (by omega)]; omega
    rw [e, show UInt64.ofInt 0 = 0 from rfl, UInt64.xor_zero, es]
    unfold zig; rw [if_pos h0]; omega
  · have e : shrI n 63 = -1 := by
      unfold shrI
      rw [show (2 : Int) ^ (min 63 64) = 9223372036854775808 from rfl, Int.fdiv_eq_ediv_of_nonneg _ (by omega)]; omega
    rw [e, show UInt64.ofInt (-1) = 18446744073709551615 from rfl, xor_ones, es]
    unfold zig; rw [if_neg h0]; omega
theorem signed_eq (n : Int) (h : inI n) : wire_Signed n = some (numBytes (zig n)) := by
  unfold wire_Signed
  rw [wireNumber_eq, zig_u n h]; rfl
theorem zig_in {n : Int} (h : inI n) : zig n < 18446744073709551616 := zig_lt h.1 h.2
theorem u64_zero (m : UInt64) : (m == 0) = decide (m.toNat = 0) := by
  rw [Bool.eq_iff_iff, beq_iff_eq, decide_eq_true_eq, ← UInt64.toNat_inj]; rfl
end Go.Proofs.Ytklfgpdfongaeaa
