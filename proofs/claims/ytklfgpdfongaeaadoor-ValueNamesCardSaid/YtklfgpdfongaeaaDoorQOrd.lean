/- Values: what a value stands for, exactly; the program's comparison. Plain. -/
import Derived.Test.YtklfgpdfongaeaaDoorQNum
namespace Go.Proofs.YtklfgpdfongaeaaDoor
open Go
set_option linter.unusedSimpArgs false
set_option linter.unusedVariables false
/-! ### the zeros at the end of a number -/
theorem odd_split : ∀ x : Nat, 0 < x → ∃ k o, x = 2 ^ k * o ∧ o % 2 = 1 := by
  intro x
  induction x using Nat.strongRecOn with
  | _ x ih =>
    intro hx
    by_cases h : x % 2 = 1
    · exact ⟨0, x, by simp, h⟩
    · obtain ⟨k, o, h1, h2⟩ := ih (x / 2) (by omega) (by omega)
      refine ⟨k + 1, o, ?_, h2⟩
      rw [Nat.pow_succ, Nat.mul_assoc, Nat.mul_comm 2 o, ← Nat.mul_assoc, ← h1]; omega
theorem and_neg_nat (k o n : Nat) (ho : o % 2 = 1) (hn : 2 ^ k * o < 2 ^ n) : (2 ^ k * o) &&& (2 ^ n - 2 ^ k * o) = 2 ^ k := by
  have hp : 0 < 2 ^ k := Nat.pow_pos (by decide)
  have ho0 : 0 < o := by omega
  have hx : 0 < 2 ^ k * o := Nat.mul_pos hp ho0
  have e1 : 2 ^ k * o - 1 = 2 ^ k * (o - 1) + (2 ^ k - 1) := by
    obtain ⟨q, rfl⟩ : ∃ q, o = q + 1 := ⟨o - 1, by omega⟩
    rw [Nat.mul_add, Nat.add_sub_cancel]; omega
  have e2 : 2 ^ n - 2 ^ k * o = 2 ^ n - ((2 ^ k * o - 1) + 1) := by omega
  apply Nat.eq_of_testBit_eq
  intro i
  rw [Nat.testBit_and, e2, Nat.testBit_two_pow_sub_succ (by omega), e1, Nat.testBit_two_pow_mul_add _ (by omega), Nat.testBit_two_pow_mul, Nat.testBit_two_pow]
  have hkn : k < n := by
    refine (Nat.pow_lt_pow_iff_right (a := 2) (by decide)).1 (Nat.lt_of_le_of_lt ?_ hn)
    exact Nat.le_mul_of_pos_right _ ho0
  by_cases h1 : i < k
  · have : ¬ i ≥ k := by omega
    have h2 : ¬ k = i := by omega
    simp [this, h2]
  · have h1' : i ≥ k := by omega
    rw [if_neg h1, decide_eq_true h1']
    by_cases h2 : k = i
    · subst h2
      rw [Nat.sub_self]
      simp [hkn, Nat.testBit_zero, ho]
      omega
    · obtain ⟨j, hj⟩ : ∃ j, i - k = j + 1 := ⟨i - k - 1, by omega⟩
      rw [hj, Nat.testBit_succ, Nat.testBit_succ, show (o - 1) / 2 = o / 2 by omega]
      simp [h2]
      intro a b; rw [a]
theorem tab_ok : ∀ k : Fin 64, vidx gtab1 (((2 ^ k.val * 285870213051353865 % 18446744073709551616 / 288230376151711744 : Nat)) : Int) = some (UInt8.ofNat k.val) := by decide +kernel
theorem tz_eq (m : UInt64) (h : m ≠ 0) : ∃ k : Nat, math_bits_TrailingZeros64 m = some (k : Int) ∧ k < 64 ∧ m.toNat / 2 ^ k * 2 ^ k = m.toNat := by
  have h0 := UInt64.toNat_lt m
  have hx : 0 < m.toNat := Nat.pos_of_ne_zero fun e => h (UInt64.toNat_inj.1 e)
  obtain ⟨k, o, h1, h2⟩ := odd_split m.toNat hx
  have hp : 0 < 2 ^ k := Nat.pow_pos (by decide)
  have hk : k < 64 := by
    refine (Nat.pow_lt_pow_iff_right (a := 2) (by decide)).1 (Nat.lt_of_le_of_lt ?_ (show m.toNat < 2 ^ 64 by omega))
    rw [h1]; exact Nat.le_mul_of_pos_right _ (by omega)
  refine ⟨k, ?_, hk, ?_⟩
  · unfold math_bits_TrailingZeros64
    have hz : (m == 0) = false := by simpa using h
    rw [hz, if_neg (by simp)]
    have e1 : (m &&& -m).toNat = 2 ^ k := by
      rw [UInt64.toNat_and, UInt64.toNat_neg, h1]
      have := and_neg_nat k o 64 h2 (by rw [← h1]; omega)
      rw [Nat.mod_eq_of_lt (by rw [← h1]; show 2 ^ 64 - m.toNat < 2 ^ 64; omega)]
      exact this
    have e2 : (shr64 ((m &&& -m) * 285870213051353865) 58).toNat = 2 ^ k * 285870213051353865 % 18446744073709551616 / 288230376151711744 := by
      rw [shr64_toNat, UInt64.toNat_mul, e1]; rfl
    rw [e2, tab_ok ⟨k, hk⟩]
    simp only [bs]
    congr 1
    simp; omega
  · rw [h1, Nat.mul_div_cancel_left _ hp, Nat.mul_comm]
/-! ### comparisons -/
def cmpI (a b : Int) : Int := if a < b then -1 else if b < a then 1 else 0
def cmpN (a b : Nat) : Int := if a < b then -1 else if b < a then 1 else 0
theorem cmpInt_eq (a b : Int) : cmp_Compare_int a b = some (cmpI a b) := by
  unfold cmp_Compare_int cmp_isNaN_int cmpI
  simp only [bs, bne_self_eq_false, Bool.false_eq_true, if_false]
  by_cases h1 : a < b
  · simp [h1]
  · by_cases h2 : b < a <;> simp [h1, h2]
theorem cmpU_eq (a b : UInt64) : cmp_Compare_uint64 a b = some (cmpN a.toNat b.toNat) := by
  unfold cmp_Compare_uint64 cmp_isNaN_uint64 cmpN
  simp only [bs, bne_self_eq_false, Bool.false_eq_true, if_false, UInt64.lt_iff_toNat_lt]
  by_cases h1 : a.toNat < b.toNat
  · simp [h1]
  · by_cases h2 : b.toNat < a.toNat <;> simp [h1, h2]
theorem cmpI_nat (a b : Nat) : cmpI (a : Int) (b : Int) = cmpN a b := by
  unfold cmpI cmpN; simp only [Int.ofNat_lt]
/-! ### what a value stands for, times 2^1074 -/
def tp (n : Nat) : Nat := 2 ^ n
theorem tp_def (n : Nat) : tp n = 2 ^ n := rfl
theorem tp_pos (n : Nat) : 0 < tp n := Nat.pow_pos (by decide)
theorem tp_add (a b : Nat) : tp (a + b) = tp a * tp b := Nat.pow_add 2 a b
theorem tp_mono {a b : Nat} (h : a ≤ b) : tp a ≤ tp b := Nat.pow_le_pow_right (by decide) h
theorem tp_lt {a b : Nat} (h : a < b) : tp a < tp b := Nat.pow_lt_pow_right (by decide) h
def top : Nat := tp 3000
def unit : Nat := tp 1074
theorem top_pos : 0 < top := tp_pos 3000
theorem unit_pos : 0 < unit := tp_pos 1074
def negV (v : api_Value) : Bool := if v.Kind = 1 then decide (v.Num < 0) else decide (9223372036854775808 ≤ v.Bits.toNat)
def infV (v : api_Value) : Bool := if v.Kind = 1 then false else decide (expo v.Bits = 2047)
def magF (x m : Nat) : Nat := if x = 2047 then top else if x = 0 then m else (4503599627370496 + m) * tp (x - 1)
def magV (v : api_Value) : Nat := if v.Kind = 1 then v.Num.natAbs * unit else magF (expo v.Bits) (mant v.Bits)
structure NumOk (n : value_number) (neg inf : Bool) (M : Nat) : Prop where
  hneg : n.neg = neg
  hinf : n.end_ = inf
  m0 : inf = true → n.m = 0
  big : inf = true → M = top
  lo : inf = false → -1074 ≤ n.e
  hi : inf = false → n.e ≤ 1100
  mag : inf = false → n.m.toNat * tp (n.e + 1074).toNat = M
theorem NumOk.lt {n : value_number} {neg : Bool} {M : Nat} (h : NumOk n neg false M) : M < top := by
  rw [← h.mag rfl]
  have h1 := UInt64.toNat_lt n.m
  have h2 := h.hi rfl
  have h4 : n.m.toNat * tp (n.e + 1074).toNat < tp 64 * tp (n.e + 1074).toNat := Nat.mul_lt_mul_of_pos_right (by rw [tp_def]; omega) (tp_pos _)
  rw [← tp_add] at h4
  exact Nat.lt_of_lt_of_le h4 (tp_mono (by omega))
theorem NumOk.zero {n : value_number} {neg inf : Bool} {M : Nat} (h : NumOk n neg inf M) : (n.m = 0 ∧ n.end_ = false) ↔ M = 0 := by
  cases inf with
  | true =>
    have h1 := h.hinf; have h2 := h.big rfl
    rw [h1, h2]
    have := top_pos
    constructor
    · intro h; cases h.2
    · intro h; omega
  | false =>
    have h1 := h.hinf; have h2 := h.mag rfl
    have hp : tp (n.e + 1074).toNat ≠ 0 := Nat.ne_of_gt (tp_pos _)
    rw [h1, ← h2, Nat.mul_eq_zero]
    simp only [and_true]
    rw [← UInt64.toNat_inj]
    constructor
    · intro h; exact .inl h
    · intro h; rcases h with h | h
      · exact h
      · exact absurd h hp
/-- the last step: zeros at the end go into the exponent -/
theorem norm_ok (s : value_number) {neg inf : Bool} {M : Nat} (h : NumOk s neg inf M) (he : inf = false → s.e ≤ 1000) : ∃ n, (if decide (0 < s.m) then math_bits_TrailingZeros64 s.m >>= fun r15 => chk (0 ≤ r15) >>= fun u17 => some ({ { s with m := shr64 s.m ((r15 : Int).toNat) } with e := w64 (s.e + r15) }) else some s) = some n ∧ NumOk n neg inf M := by
  by_cases h0 : s.m = 0
  · have : decide (0 < s.m) = false := by rw [h0]; rfl
    rw [this]
    exact ⟨s, rfl, h⟩
  · have hpos : decide (0 < s.m) = true := by
      simp only [decide_eq_true_eq, UInt64.lt_iff_toNat_lt]
      exact Nat.pos_of_ne_zero fun e => h0 (UInt64.toNat_inj.1 e)
    have hinf : inf = false := by cases inf with | false => rfl | true => exact absurd (h.m0 rfl) h0
    subst hinf
    obtain ⟨k, h1, h2, h3⟩ := tz_eq s.m h0
    have hlo := h.lo rfl
    have hhi := he rfl
    rw [hpos, if_pos rfl, h1]
    simp only [bs]
    rw [chk_true (by omega)]
    simp only [bs, Int.toNat_natCast]
    refine ⟨_, rfl, ⟨h.hneg, h.hinf, (fun e => by cases e), (fun e => by cases e), ?_, ?_, ?_⟩⟩
    · intro _; dsimp only; rw [w64_eq (by omega) (by omega)]; omega
    · intro _; dsimp only; rw [w64_eq (by omega) (by omega)]; omega
    · intro _
      dsimp only
      rw [w64_eq (by omega) (by omega), shr64_toNat, Nat.min_eq_left (by omega), show (s.e + (k : Int) + 1074).toNat = k + (s.e + 1074).toNat by omega, tp_add, tp_def k, ← Nat.mul_assoc, h3]
      exact h.mag rfl
theorem norm_ok' (ng en : Bool) (m : UInt64) (e : Int) {neg inf : Bool} {M : Nat} (h : NumOk ⟨ng, en, m, e⟩ neg inf M) (he : inf = false → e ≤ 1000) : ∃ n, (if decide (0 < m) then math_bits_TrailingZeros64 m >>= fun r15 => chk (0 ≤ r15) >>= fun u17 => some ({ neg := ng, end_ := en, m := shr64 m ((r15 : Int).toNat), e := w64 (e + r15) } : value_number) else some { neg := ng, end_ := en, m := m, e := e }) = some n ∧ NumOk n neg inf M := norm_ok ⟨ng, en, m, e⟩ h he
theorem c52 : (4503599627370496 : UInt64).toNat = 4503599627370496 := rfl
theorem num_neg (n : Int) (h : n < 0) (h2 : -9223372036854775808 ≤ n) : NumOk ⟨true, false, -UInt64.ofInt n, 0⟩ true false (n.natAbs * unit) := by
  refine ⟨rfl, rfl, (fun e => by cases e), (fun e => by cases e), (fun _ => ?_), (fun _ => ?_), (fun _ => ?_)⟩
  · dsimp only; omega
  · dsimp only; omega
  · dsimp only
    have e1 : (-UInt64.ofInt n).toNat = n.natAbs := by
      rw [UInt64.toNat_neg]
      simp [UInt64.ofInt, UInt64.size]
      omega
    rw [e1]; rfl
theorem num_pos (n : Int) (h : 0 ≤ n) (h2 : n ≤ 9223372036854775807) : NumOk ⟨false, false, UInt64.ofInt n, 0⟩ false false (n.natAbs * unit) := by
  refine ⟨rfl, rfl, (fun e => by cases e), (fun e => by cases e), (fun _ => ?_), (fun _ => ?_), (fun _ => ?_)⟩
  · dsimp only; omega
  · dsimp only; omega
  · dsimp only
    have e1 : (UInt64.ofInt n).toNat = n.natAbs := by
      simp [UInt64.ofInt]
      omega
    rw [e1]; rfl
theorem flt_inf (s : Bool) (m : UInt64) (x k : Nat) (hx : x = 2047) (hm : m.toNat = 0) : NumOk ⟨s, true, m, -1074⟩ s true (magF x k) := by
  refine ⟨rfl, rfl, (fun _ => ?_), (fun _ => ?_), (fun e => by cases e), (fun e => by cases e), (fun e => by cases e)⟩
  · exact UInt64.toNat_inj.1 hm
  · unfold magF; rw [if_pos hx]
theorem flt_low (s : Bool) (m : UInt64) (x k : Nat) (hx : x = 0) (hm : m.toNat = k) : NumOk ⟨s, false, m, -1074⟩ s false (magF x k) := by
  refine ⟨rfl, rfl, (fun e => by cases e), (fun e => by cases e), (fun _ => ?_), (fun _ => ?_), (fun _ => ?_)⟩
  · dsimp only; omega
  · dsimp only; omega
  · dsimp only
    unfold magF
    rw [hm, if_neg (by omega), if_pos hx, show ((-1074 : Int) + 1074).toNat = 0 from rfl, tp_def]; simp
theorem flt_use (s : Bool) (M : UInt64) (x k : Nat) (h1 : 0 < x) (h2 : x < 2047) (hM : M.toNat = 4503599627370496 + k) : NumOk ⟨s, false, M, w64 ((x : Int) - 1075)⟩ s false (magF x k) := by
  refine ⟨rfl, rfl, (fun e => by cases e), (fun e => by cases e), (fun _ => ?_), (fun _ => ?_), (fun _ => ?_)⟩
  · dsimp only; rw [w64_eq (by omega) (by omega)]; omega
  · dsimp only; rw [w64_eq (by omega) (by omega)]; omega
  · dsimp only
    rw [w64_eq (by omega) (by omega), hM, show ((x : Int) - 1075 + 1074).toNat = x - 1 by omega]
    unfold magF
    rw [if_neg (by omega), if_neg (by omega)]
theorem add52 (m : UInt64) (k : Nat) (hk : k < 4503599627370496) (hm : m.toNat = k) : (m + 4503599627370496).toNat = 4503599627370496 + k := by
  rw [UInt64.toNat_add, c52, hm, Nat.mod_eq_of_lt (by omega), Nat.add_comm]
theorem hneg2 (b : UInt64) : decide ((9223372036854775808 : UInt64) ≤ b) = decide (9223372036854775808 ≤ b.toNat) := by
  rw [Bool.eq_iff_iff]; simp only [decide_eq_true_eq, UInt64.le_iff_toNat_le]; rfl
/-! the two stages of 'of' -/
def tailN (s3 : value_number) : Option value_number :=
  if decide (0 < s3.m) then
    math_bits_TrailingZeros64 s3.m >>= fun r15 =>
    chk (0 ≤ r15) >>= fun u17 =>
    some ({ { s3 with m := shr64 s3.m ((r15 : Int).toNat) } with e := w64 (s3.e + r15) })
  else
    some s3
def fltN (neg : Bool) (x : Int) (m : UInt64) : Option value_number :=
  (if decide (0 < x) then some (!(x == 2047)) else some false) >>= fun s11 =>
  if s11 then some (⟨neg, x == 2047, m + 4503599627370496, w64 (x - 1075)⟩ : value_number)
  else some (⟨neg, x == 2047, m, (-1074)⟩ : value_number)
theorem value_of_eq (v : api_Value) : value_of v = ((if v.Kind == 1 then some (decide (v.Num < 0)) else some false) >>= fun s4 =>
    if s4 then some (⟨true, false, -(UInt64.ofInt v.Num), 0⟩ : value_number)
    else if v.Kind == 1 then some (⟨false, false, UInt64.ofInt v.Num, 0⟩ : value_number)
    else value_split v.Bits >>= fun r9 => fltN (decide (9223372036854775808 ≤ v.Bits)) r9.1 r9.2) >>= tailN := rfl
theorem tailN_ok (s : value_number) {neg inf : Bool} {M : Nat} (h : NumOk s neg inf M) (he : inf = false → s.e ≤ 1000) : ∃ n, tailN s = some n ∧ NumOk n neg inf M := norm_ok s h he
theorem fltN_ok (neg : Bool) (x k : Nat) (m : UInt64) (hx : x < 2048) (hk : k < 4503599627370496) (hm : m.toNat = k) (hn : x = 2047 → k = 0) : ∃ s, fltN neg (x : Int) m = some s ∧ NumOk s neg (decide (x = 2047)) (magF x k) ∧ (decide (x = 2047) = false → s.e ≤ 1000) := by
  unfold fltN
  by_cases h7 : x = 2047
  · have e0 : decide (0 < (x : Int)) = true := by simp; omega
    have e1 : ((x : Int) == 2047) = true := by simp; omega
    rw [e0, e1, decide_eq_true h7]
    exact ⟨_, rfl, flt_inf neg m x k h7 (by rw [hm]; exact hn h7), fun e => by cases e⟩
  · have e1 : ((x : Int) == 2047) = false := by simp; omega
    rw [e1, decide_eq_false h7]
    by_cases h0 : x = 0
    · have e0 : decide (0 < (x : Int)) = false := by simp; omega
      rw [e0]
      exact ⟨_, rfl, flt_low neg m x k h0 hm, fun _ => by show (-1074 : Int) ≤ 1000; decide⟩
    · have e0 : decide (0 < (x : Int)) = true := by simp; omega
      rw [e0]
      exact ⟨_, rfl, flt_use neg _ x k (by omega) (by omega) (add52 m k hk hm), fun _ => by show w64 ((x : Int) - 1075) ≤ 1000; rw [w64_eq (by omega) (by omega)]; omega⟩
theorem of_ok (v : api_Value) (hI : inI v.Num) (hnan : v.Kind ≠ 1 → expo v.Bits = 2047 → mant v.Bits = 0) : ∃ n, value_of v = some n ∧ NumOk n (negV v) (infV v) (magV v) := by
  have hx := expo_lt v.Bits
  have hm := mant_lt v.Bits
  rw [value_of_eq]
  by_cases hk : v.Kind = 1
  · have hk' : (v.Kind == 1) = true := by simpa using hk
    rw [hk', if_pos rfl]
    obtain ⟨i1, i2⟩ := hI
    have hmag : magV v = v.Num.natAbs * unit := by unfold magV; rw [if_pos hk]
    have hinf : infV v = false := by unfold infV; rw [if_pos hk]
    have hneg : negV v = decide (v.Num < 0) := by unfold negV; rw [if_pos hk]
    rw [hmag, hinf, hneg]
    by_cases hn : v.Num < 0
    · rw [decide_eq_true hn]
      exact tailN_ok _ (num_neg v.Num hn i1) (fun _ => by show (0 : Int) ≤ 1000; decide)
    · rw [decide_eq_false hn]
      exact tailN_ok _ (num_pos v.Num (by omega) i2) (fun _ => by show (0 : Int) ≤ 1000; decide)
  · have hk' : (v.Kind == 1) = false := by simpa using hk
    rw [hk', if_neg (by simp)]
    have hmag : magV v = magF (expo v.Bits) (mant v.Bits) := by unfold magV; rw [if_neg hk]
    have hinf : infV v = decide (expo v.Bits = 2047) := by unfold infV; rw [if_neg hk]
    have hneg : negV v = decide (9223372036854775808 ≤ v.Bits.toNat) := by unfold negV; rw [if_neg hk]
    rw [hmag, hinf, hneg, ← hneg2]
    obtain ⟨s, h1, h2, h3⟩ := fltN_ok (decide (9223372036854775808 ≤ v.Bits)) (expo v.Bits) (mant v.Bits) (v.Bits % 4503599627370496) hx hm (by rw [UInt64.toNat_mod, c52]; rfl) (hnan hk)
    obtain ⟨n, h4, h5⟩ := tailN_ok s h2 h3
    refine ⟨n, ?_, h5⟩
    rw [bs, if_neg (by simp), if_neg (by simp), split_eq, bs]
    show fltN (decide (9223372036854775808 ≤ v.Bits)) (expo v.Bits : Int) (v.Bits % 4503599627370496) >>= tailN = some n
    rw [h1, bs, h4]
end Go.Proofs.YtklfgpdfongaeaaDoor
