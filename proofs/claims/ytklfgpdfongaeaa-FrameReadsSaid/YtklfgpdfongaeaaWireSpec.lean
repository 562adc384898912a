/- What package wire computes, over lists of bytes: plain Lean, no program in sight. -/
import Derived.Test.YtklfgpdfongaeaaLibF
namespace Go.Proofs.Ytklfgpdfongaeaa
open Go
set_option linter.unusedSimpArgs false
set_option linter.unusedVariables false

/-- How many bits a number has. -/
def bitLen (n : Nat) : Nat := if n = 0 then 0 else n.log2 + 1
theorem bitLen_shift (n k : Nat) (h : 2 ^ k ≤ n) : bitLen n = k + bitLen (n / 2 ^ k) := by
  have hp : 0 < 2 ^ k := Nat.pow_pos (by decide)
  have h1 : n / 2 ^ k ≠ 0 := by
    have : 1 ≤ n / 2 ^ k := (Nat.le_div_iff_mul_le hp).2 (by rw [Nat.one_mul]; exact h)
    omega
  have h2 : n ≠ 0 := by omega
  unfold bitLen
  rw [if_neg h1, if_neg h2]
  have h3 : n.log2 = k + (n / 2 ^ k).log2 := by
    rw [Nat.log2_eq_iff h2]
    have h4 := (Nat.log2_eq_iff h1).1 rfl
    refine ⟨?_, ?_⟩
    · rw [Nat.pow_add, Nat.mul_comm]; exact (Nat.le_div_iff_mul_le hp).1 h4.1
    · rw [Nat.add_assoc, Nat.pow_add, Nat.mul_comm]; exact (Nat.div_lt_iff_lt_mul hp).1 h4.2
  omega
theorem bitLen_le (n k : Nat) (h : n < 2 ^ k) : bitLen n ≤ k := by
  unfold bitLen; split
  · omega
  · rename_i h0; have := (Nat.log2_lt h0).2 h; omega
theorem bitLen_lt (n : Nat) : n < 2 ^ bitLen n := by
  unfold bitLen; split
  · omega
  · rename_i h0; exact Nat.lt_log2_self
theorem bitLen_ge (n : Nat) (h : n ≠ 0) : 2 ^ (bitLen n - 1) ≤ n := by
  unfold bitLen; rw [if_neg h, Nat.add_sub_cancel]; exact Nat.log2_self_le h
def len8tab : ByteArray := ⟨#[0, 1, 2, 2, 3, 3, 3, 3, 4, 4, 4, 4, 4, 4, 4, 4, 5, 5, 5, 5, 5, 5, 5, 5, 5, 5, 5, 5, 5, 5, 5, 5, 6, 6, 6, 6, 6, 6, 6, 6, 6, 6, 6, 6, 6, 6, 6, 6, 6, 6, 6, 6, 6, 6, 6, 6, 6, 6, 6, 6, 6, 6, 6, 6, 7, 7, 7, 7, 7, 7, 7, 7, 7, 7, 7, 7, 7, 7, 7, 7, 7, 7, 7, 7, 7, 7, 7, 7, 7, 7, 7, 7, 7, 7, 7, 7, 7, 7, 7, 7, 7, 7, 7, 7, 7, 7, 7, 7, 7, 7, 7, 7, 7, 7, 7, 7, 7, 7, 7, 7, 7, 7, 7, 7, 7, 7, 7, 7, 8, 8, 8, 8, 8, 8, 8, 8, 8, 8, 8, 8, 8, 8, 8, 8, 8, 8, 8, 8, 8, 8, 8, 8, 8, 8, 8, 8, 8, 8, 8, 8, 8, 8, 8, 8, 8, 8, 8, 8, 8, 8, 8, 8, 8, 8, 8, 8, 8, 8, 8, 8, 8, 8, 8, 8, 8, 8, 8, 8, 8, 8, 8, 8, 8, 8, 8, 8, 8, 8, 8, 8, 8, 8, 8, 8, 8, 8, 8, 8, 8, 8, 8, 8, 8, 8, 8, 8, 8, 8, 8, 8, 8, 8, 8, 8, 8, 8, 8, 8, 8, 8, 8, 8, 8, 8, 8, 8, 8, 8, 8, 8, 8, 8, 8, 8, 8, 8, 8, 8, 8, 8, 8, 8, 8, 8, 8, 8]⟩
set_option maxRecDepth 100000 in
theorem len8_all : ∀ x : Fin 256, len8tab.data[x.val]? = some (UInt8.ofNat (bitLen x.val)) := by decide +kernel
set_option maxRecDepth 100000 in
theorem len8_get (x : Nat) (h : x < 256) : len8tab[(((UInt8.ofNat x).toNat : Nat) : Int).toNat]? = some (UInt8.ofNat (bitLen x)) := by
  have h1 : (((UInt8.ofNat x).toNat : Nat) : Int).toNat = x := by simp; omega
  rw [h1]
  have := len8_all ⟨x, h⟩
  rw [← this]
  have hs : x < len8tab.size := h
  have hd : x < len8tab.data.size := h
  rw [getElem?_pos len8tab x hs, getElem?_pos len8tab.data x hd]
  rfl
theorem len8_conv (x : Nat) (h : x < 256) : IntKind.i64.wrap (((UInt8.ofNat (bitLen x)).toNat : Nat) : Int) = ((bitLen x : Nat) : Int) := by
  have hb := bitLen_le x 8 h
  have : (UInt8.ofNat (bitLen x)).toNat = bitLen x := by simp; omega
  rw [this]; exact wrap_i64 (by omega) rfl

/-- The digits of a number to the base 256, the lowest one first. -/
def digits (n : Nat) : List UInt8 := if h : n = 0 then [] else UInt8.ofNat n :: digits (n / 256)
termination_by n
theorem digits_zero : digits 0 = [] := by rw [digits]; simp
theorem digits_pos (n : Nat) (h : n ≠ 0) : digits n = UInt8.ofNat n :: digits (n / 256) := by rw [digits]; simp [h]
/-- The bytes of a number. -/
def numBytes (n : Nat) : List UInt8 := if n ≤ 247 then [UInt8.ofNat n] else UInt8.ofNat (247 + (digits n).length) :: (digits n).reverse
theorem digits_len (n : Nat) : (digits n).length = (bitLen n + 7) / 8 := by
  induction n using Nat.strongRecOn with
  | _ n ih =>
    by_cases h : n = 0
    · subst h; rw [digits_zero]; simp [bitLen]
    · rw [digits_pos n h, List.length_cons, ih (n / 256) (by omega)]
      by_cases h2 : n < 256
      · have : n / 256 = 0 := by omega
        rw [this]
        have h3 : bitLen n ≤ 8 := bitLen_le n 8 h2
        have h4 : 1 ≤ bitLen n := by unfold bitLen; rw [if_neg h]; omega
        simp [bitLen] at h3 h4 ⊢
        rw [if_neg h] at h3 h4 ⊢; omega
      · have := bitLen_shift n 8 (by omega)
        rw [show (2 : Nat) ^ 8 = 256 from rfl] at this
        omega
theorem digits_get (n : Nat) : ∀ (i : Nat), i < (digits n).length → (digits n)[i]? = some (UInt8.ofNat (n / 256 ^ i)) := by
  induction n using Nat.strongRecOn with
  | _ n ih =>
    intro i hi
    by_cases h : n = 0
    · subst h; rw [digits_zero] at hi; simp at hi
    · rw [digits_pos n h] at hi ⊢
      cases i with
      | zero => simp
      | succ i =>
        simp only [List.length_cons] at hi
        rw [List.getElem?_cons_succ, ih (n / 256) (by omega) i (by omega), Nat.div_div_eq_div_mul]
        congr 3
        rw [Nat.pow_succ, Nat.mul_comm]
theorem digits_le (n : Nat) (h : n < 18446744073709551616) : (digits n).length ≤ 8 := by
  rw [digits_len]; have := bitLen_le n 64 (by simpa using h); omega
theorem numBytes_len (n : Nat) (h : n < 18446744073709551616) : 1 ≤ (numBytes n).length ∧ (numBytes n).length ≤ 9 := by
  unfold numBytes; have := digits_le n h; split <;> simp <;> omega
/-- The bytes of a great number, the last i digits laid. -/
def fillNum (n i : Nat) : List UInt8 := UInt8.ofNat (247 + (digits n).length) :: (List.replicate ((digits n).length - i) 0 ++ ((digits n).take i).reverse)
theorem fillNum_len (n i : Nat) (h : i ≤ (digits n).length) : (fillNum n i).length = (digits n).length + 1 := by simp [fillNum]; omega
theorem fillNum_zero (n : Nat) : (List.replicate ((digits n).length + 1) (0 : UInt8)).set 0 (UInt8.ofNat (247 + (digits n).length)) = fillNum n 0 := by
  simp [fillNum, List.replicate_succ]
theorem fillNum_step (n i : Nat) (h : i < (digits n).length) : (fillNum n i).set ((digits n).length - i) (UInt8.ofNat (n / 2 ^ (8 * i))) = fillNum n (i + 1) := by
  have hg := digits_get n i h
  have he : n / 2 ^ (8 * i) = n / 256 ^ i := by rw [Nat.pow_mul]
  rw [he]
  unfold fillNum
  obtain ⟨m, hm⟩ : ∃ m, (digits n).length - i = m + 1 := ⟨(digits n).length - i - 1, by omega⟩
  have hm2 : (digits n).length - (i + 1) = m := by omega
  rw [hm, hm2, List.set_cons_succ, List.take_succ_eq_append_getElem h, List.reverse_append, List.reverse_singleton, List.replicate_succ']
  rw [List.getElem?_eq_getElem h, Option.some.injEq] at hg
  rw [hg, List.append_assoc, List.set_append_right _ _ (by simp)]
  simp
theorem fillNum_last (n : Nat) (h : 247 < n) : fillNum n (digits n).length = numBytes n := by
  unfold fillNum numBytes; rw [if_neg (by omega)]; simp

theorem digits_split (n m : Nat) (ds : List UInt8) (hm : m ≠ 0) (h : digits n = ds ++ digits m) : digits n = (ds ++ [UInt8.ofNat (m % 256)]) ++ digits (m / 256) := by
  rw [h, digits_pos m hm, List.append_assoc]
  have : UInt8.ofNat (m % 256) = UInt8.ofNat m := by
    apply UInt8.toNat_inj.1; simp
  rw [this]; rfl
theorem append_left_le {α} {l a b : List α} (h : l = a ++ b) : a.length ≤ l.length := by rw [h]; simp
/-- The number that bytes stand for, the highest one first. -/
def beVal (l : List UInt8) : Nat := l.foldl (fun n x => 256 * n + x.toNat) 0
theorem beVal_snoc (l : List UInt8) (x : UInt8) : beVal (l ++ [x]) = 256 * beVal l + x.toNat := by simp [beVal]
theorem beVal_lt (l : List UInt8) : beVal l < 256 ^ l.length := by
  have : ∀ (m : List UInt8), beVal m.reverse < 256 ^ m.length := by
    intro m
    induction m with
    | nil => simp [beVal]
    | cons x m ih =>
      rw [List.reverse_cons, beVal_snoc, List.length_cons, Nat.pow_succ]
      have := x.toNat_lt
      omega
  have h := this l.reverse
  simpa using h
theorem digits_beVal : ∀ (l : List UInt8), (∀ x, l.getLast? = some x → x ≠ 0) → digits (beVal l.reverse) = l
  | [], _ => by simp [beVal, digits_zero]
  | x :: l, h => by
    rw [List.reverse_cons, beVal_snoc]
    have hx := x.toNat_lt
    have h1 : (256 * beVal l.reverse + x.toNat) / 256 = beVal l.reverse := by omega
    have h2 : UInt8.ofNat (256 * beVal l.reverse + x.toNat) = x := by
      apply UInt8.toNat_inj.1; simp <;> omega
    have hl : digits (beVal l.reverse) = l := by
      apply digits_beVal
      intro y hy
      cases l with
      | nil => simp at hy
      | cons z l => exact h y (by rw [List.getLast?_cons_cons]; exact hy)
    by_cases h0 : 256 * beVal l.reverse + x.toNat = 0
    · exfalso
      cases l with
      | nil =>
        have := h x (by simp)
        apply this
        apply UInt8.toNat_inj.1
        simp <;> omega
      | cons z l =>
        have : beVal (z :: l).reverse = 0 := by omega
        rw [this, digits_zero] at hl
        cases hl
    · rw [digits_pos _ h0, h1, h2, hl]
theorem beVal_digits (n : Nat) : beVal (digits n).reverse = n := by
  induction n using Nat.strongRecOn with
  | _ n ih =>
    by_cases h : n = 0
    · subst h; rw [digits_zero]; rfl
    · rw [digits_pos n h, List.reverse_cons, beVal_snoc, ih (n / 256) (by omega)]
      simp; omega
theorem digits_last (n : Nat) : ∀ x, (digits n).getLast? = some x → x ≠ 0 := by
  induction n using Nat.strongRecOn with
  | _ n ih =>
    intro x hx
    by_cases h : n = 0
    · subst h; rw [digits_zero] at hx; simp at hx
    · rw [digits_pos n h] at hx
      by_cases h2 : n / 256 = 0
      · rw [h2, digits_zero] at hx
        simp at hx
        subst hx
        intro e
        have := congrArg UInt8.toNat e
        simp at this; omega
      · rw [digits_pos _ h2, List.getLast?_cons_cons, ← digits_pos _ h2] at hx
        exact ih _ (by omega) x hx
/-- What is read at the beginning of some bytes: the number, and how many bytes it has. -/
def readNum (b : List UInt8) : Option (Nat × Nat) :=
  if b.length = 0 then none
  else if (b.getD 0 0).toNat ≤ 247 then some ((b.getD 0 0).toNat, 1)
  else if b.length ≤ (b.getD 0 0).toNat - 247 ∨ (b.getD 1 0).toNat = 0 ∨ ((b.getD 0 0).toNat - 247 = 1 ∧ (b.getD 1 0).toNat ≤ 247) then none
  else some (beVal ((b.drop 1).take ((b.getD 0 0).toNat - 247)), (b.getD 0 0).toNat - 247 + 1)
/-- As the calls hand it back: the number, how many bytes, the error. -/
def readN (b : List UInt8) : Nat × Nat × Nat :=
  match readNum b with
  | some (n, u) => (n, u, 0)
  | none => (0, 0, 12)

theorem take_one {b : List UInt8} (h : b.length ≠ 0) : b.take 1 = [b.getD 0 0] := by cases b <;> simp_all
theorem take_succ_drop {b : List UInt8} (k : Nat) (h : b.length ≠ 0) : b.take (k + 1) = b.getD 0 0 :: (b.drop 1).take k := by cases b <;> simp_all
theorem drop_take_head {b : List UInt8} {k : Nat} (h1 : 1 ≤ k) (h : 2 ≤ b.length) : (b.drop 1).take k = b.getD 1 0 :: ((b.drop 1).take k).tail := by
  obtain ⟨m, rfl⟩ : ∃ m, k = m + 1 := ⟨k - 1, by omega⟩
  match b, h with
  | x :: y :: t, _ => simp
theorem ofNat_toNat (x : UInt8) : UInt8.ofNat x.toNat = x := by simp
theorem pow256_le {k : Nat} (h : k ≤ 8) : 256 ^ k ≤ 18446744073709551616 := by
  have : 256 ^ k ≤ 256 ^ 8 := Nat.pow_le_pow_right (by decide) h
  simpa using this
theorem readNum_some_iff (b : List UInt8) (n u : Nat) : readNum b = some (n, u) ↔ n < 18446744073709551616 ∧ u = (numBytes n).length ∧ b.take u = numBytes n := by
  constructor
  · intro h
    unfold readNum at h
    by_cases h0 : b.length = 0
    · rw [if_pos h0] at h; cases h
    · rw [if_neg h0] at h
      have hx := (b.getD 0 0).toNat_lt
      by_cases h1 : (b.getD 0 0).toNat ≤ 247
      · rw [if_pos h1] at h
        simp only [Option.some.injEq, Prod.mk.injEq] at h
        obtain ⟨rfl, rfl⟩ := h
        refine ⟨by omega, ?_, ?_⟩
        · unfold numBytes; rw [if_pos h1]; rfl
        · unfold numBytes; rw [if_pos h1, take_one h0, ofNat_toNat]
      · rw [if_neg h1] at h
        by_cases h2 : b.length ≤ (b.getD 0 0).toNat - 247 ∨ (b.getD 1 0).toNat = 0 ∨ ((b.getD 0 0).toNat - 247 = 1 ∧ (b.getD 1 0).toNat ≤ 247)
        · rw [if_pos h2] at h; cases h
        · rw [if_neg h2] at h
          simp only [Option.some.injEq, Prod.mk.injEq] at h
          obtain ⟨k, hk⟩ : ∃ k, (b.getD 0 0).toNat - 247 = k := ⟨_, rfl⟩
          rw [hk] at h h2
          obtain ⟨hn, rfl⟩ := h
          have hk1 : 1 ≤ k := by omega
          have hk8 : k ≤ 8 := by omega
          have hlen : k < b.length := by omega
          obtain ⟨d, hd⟩ : ∃ d, (b.drop 1).take k = d := ⟨_, rfl⟩
          rw [hd] at hn
          have hdl : d.length = k := by rw [← hd]; simp; omega
          have hd0 : d = b.getD 1 0 :: d.tail := by
            rw [← hd]
            exact drop_take_head hk1 (by omega)
          have hdig : digits n = d.reverse := by
            rw [← hn]
            have := digits_beVal d.reverse (by
              intro x hx
              rw [List.getLast?_reverse, hd0] at hx
              simp at hx
              subst hx
              intro e
              apply h2
              right; left
              have := congrArg UInt8.toNat e
              simpa using this)
            rw [List.reverse_reverse] at this
            exact this
          have hlt : n < 18446744073709551616 := by
            have h3 := beVal_lt d
            rw [hn, hdl] at h3
            exact Nat.lt_of_lt_of_le h3 (pow256_le hk8)
          have hgt : ¬ n ≤ 247 := by
            intro hle
            by_cases hk2 : k = 1
            · apply h2
              right; right
              refine ⟨hk2, ?_⟩
              have : d.tail = [] := List.eq_nil_of_length_eq_zero (by simp [hdl, hk2])
              rw [hd0, this] at hn
              simp [beVal] at hn
              simp at hle ⊢
              omega
            · have h3 : (digits n).length ≤ 1 := by
                rw [digits_len]
                have := bitLen_le n 8 (by omega)
                omega
              rw [hdig, List.length_reverse, hdl] at h3
              omega
          refine ⟨hlt, ?_, ?_⟩
          · unfold numBytes; rw [if_neg hgt, hdig]; simp [hdl]
          · unfold numBytes
            rw [if_neg hgt, hdig, List.reverse_reverse, List.length_reverse, hdl, take_succ_drop k h0, hd]
            have h247 : b.getD 0 0 = UInt8.ofNat (247 + k) := by
              apply UInt8.toNat_inj.1
              rw [UInt8.toNat_ofNat']
              omega
            rw [h247]
  · rintro ⟨hn, rfl, hb⟩
    have hl := congrArg List.length hb
    have h9 := numBytes_len n hn
    rw [List.length_take] at hl
    have h0 : b.length ≠ 0 := by omega
    unfold readNum
    rw [if_neg h0]
    by_cases h1 : n ≤ 247
    · have hnb : numBytes n = [UInt8.ofNat n] := by unfold numBytes; rw [if_pos h1]
      rw [hnb] at hb ⊢
      rw [show ([UInt8.ofNat n] : List UInt8).length = 1 from rfl, take_one h0] at hb
      injection hb with hb _
      have : (b.getD 0 0).toNat = n := by rw [hb]; simp; omega
      rw [if_pos (by omega), this]
      rfl
    · have hnb : numBytes n = UInt8.ofNat (247 + (digits n).length) :: (digits n).reverse := by unfold numBytes; rw [if_neg h1]
      have hd8 := digits_le n hn
      have hd1 : 1 ≤ (digits n).length := by rw [digits_pos n (by omega)]; simp
      rw [hnb] at hb hl ⊢
      simp only [List.length_cons, List.length_reverse] at hb hl ⊢
      rw [take_succ_drop _ h0] at hb
      injection hb with hb1 hb2
      have hx : (b.getD 0 0).toNat = 247 + (digits n).length := by rw [hb1]; simp; omega
      rw [if_neg (by omega), hx, Nat.add_sub_cancel_left]
      have hy : ∃ y, (digits n).getLast? = some y ∧ b.getD 1 0 = y := by
        have h3 : (digits n).reverse.head? = some (b.getD 1 0) := by
          rw [← hb2, drop_take_head hd1 (by omega)]
          rfl
        rw [List.head?_reverse] at h3
        exact ⟨_, h3, rfl⟩
      obtain ⟨y, hy1, hy2⟩ := hy
      have hy0 := digits_last n y hy1
      have h2 : ¬ (b.length ≤ (digits n).length ∨ (b.getD 1 0).toNat = 0 ∨ ((digits n).length = 1 ∧ (b.getD 1 0).toNat ≤ 247)) := by
        rintro (h | h | ⟨h, h'⟩)
        · omega
        · rw [hy2] at h
          apply hy0
          apply UInt8.toNat_inj.1
          simpa using h
        · rw [digits_pos n (by omega), List.length_cons] at h
          have h4 : digits (n / 256) = [] := List.eq_nil_of_length_eq_zero (by omega)
          have h5 : n / 256 = 0 := by
            by_cases h6 : n / 256 = 0
            · exact h6
            · rw [digits_pos _ h6] at h4; cases h4
          rw [digits_pos n (by omega), h4] at hy1
          simp at hy1
          rw [hy2, ← hy1] at h'
          simp at h'
          omega
      rw [if_neg h2, hb2, beVal_digits]
theorem readNum_lt {b : List UInt8} {n u : Nat} (h : readNum b = some (n, u)) : n < 18446744073709551616 ∧ 1 ≤ u ∧ u ≤ 9 ∧ u ≤ b.length := by
  obtain ⟨h1, h2, h3⟩ := (readNum_some_iff b n u).1 h
  have h4 := numBytes_len n h1
  have h5 := congrArg List.length h3
  rw [List.length_take] at h5
  omega

theorem drop_rev (ds : List UInt8) (x k : Nat) (h : k < ds.length) : (UInt8.ofNat x :: (ds.drop (k + 1)).reverse) ++ [ds.getD k 0] = UInt8.ofNat x :: (ds.drop k).reverse := by
  have e : ds.drop k = ds.getD k 0 :: ds.drop (k + 1) := by rw [List.drop_eq_getElem_cons h]; simp [List.getD, h]
  rw [e, List.reverse_cons]; rfl
theorem readN_none {b : List UInt8} (h : readNum b = none) : readN b = (0, 0, 12) := by unfold readN; rw [h]
theorem readN_some {b : List UInt8} {n u : Nat} (h : readNum b = some (n, u)) : readN b = (n, u, 0) := by unfold readN; rw [h]
theorem readN_cases (b : List UInt8) : (readNum b = none ∧ readN b = (0, 0, 12)) ∨ ∃ n u, readNum b = some (n, u) ∧ readN b = (n, u, 0) := by
  cases h : readNum b with
  | none => exact .inl ⟨rfl, readN_none h⟩
  | some x => exact .inr ⟨x.1, x.2, rfl, readN_some h⟩
theorem readN_lt (b : List UInt8) : (readN b).1 < 18446744073709551616 ∧ (readN b).2.1 ≤ 9 ∧ ((readN b).2.2 = 0 ∨ (readN b).2.2 = 12) := by
  rcases readN_cases b with ⟨_, h⟩ | ⟨n, u, h1, h⟩
  · rw [h]; simp
  · rw [h]; have := readNum_lt h1; simp; omega
theorem readNum_nil {b : List UInt8} (h : b.length = 0) : readNum b = none := by unfold readNum; rw [if_pos h]
theorem readNum_small {b : List UInt8} (h : b.length ≠ 0) (h1 : (b.getD 0 0).toNat ≤ 247) : readNum b = some ((b.getD 0 0).toNat, 1) := by unfold readNum; rw [if_neg h, if_pos h1]
theorem readNum_bad {b : List UInt8} (h : b.length ≠ 0) (h1 : ¬ (b.getD 0 0).toNat ≤ 247) (h2 : b.length ≤ (b.getD 0 0).toNat - 247 ∨ (b.getD 1 0).toNat = 0 ∨ ((b.getD 0 0).toNat - 247 = 1 ∧ (b.getD 1 0).toNat ≤ 247)) : readNum b = none := by
  unfold readNum; rw [if_neg h, if_neg h1, if_pos h2]
theorem readNum_good {b : List UInt8} (h : b.length ≠ 0) (h1 : ¬ (b.getD 0 0).toNat ≤ 247) (h2 : ¬ (b.length ≤ (b.getD 0 0).toNat - 247 ∨ (b.getD 1 0).toNat = 0 ∨ ((b.getD 0 0).toNat - 247 = 1 ∧ (b.getD 1 0).toNat ≤ 247))) :
    readNum b = some (beVal ((b.drop 1).take ((b.getD 0 0).toNat - 247)), (b.getD 0 0).toNat - 247 + 1) := by
  unfold readNum; rw [if_neg h, if_neg h1, if_neg h2]
theorem take_snoc {l : List UInt8} {i : Nat} (h : i < l.length) : l.take (i + 1) = l.take i ++ [l.getD i 0] := by
  rw [List.take_succ_eq_append_getElem h]; simp [List.getD, h]
theorem beVal_take {l : List UInt8} {i : Nat} (h : i < l.length) : beVal (l.take (i + 1)) = 256 * beVal (l.take i) + (l.getD i 0).toNat := by rw [take_snoc h, beVal_snoc]
theorem beVal_take_lt {l : List UInt8} {i : Nat} (h : i < l.length) (h8 : l.length ≤ 8) : beVal (l.take (i + 1)) < 18446744073709551616 ∧ 256 * beVal (l.take i) + (l.getD i 0).toNat < 18446744073709551616 ∧ beVal (l.take i) < 72057594037927936 := by
  have h1 := beVal_lt (l.take (i + 1))
  rw [List.length_take, Nat.min_eq_left (by omega)] at h1
  have h2 := pow256_le (k := i + 1) (by omega)
  have h3 := beVal_take h
  omega
theorem bits_or64 (a b : Int) : bitsOf .or .u64 a b = IntKind.u64.wrap ((BitVec.ofInt 64 a ||| BitVec.ofInt 64 b).toNat : Int) := rfl
theorem bits_and64 (a b : Int) : bitsOf .and .u64 a b = IntKind.u64.wrap ((BitVec.ofInt 64 a &&& BitVec.ofInt 64 b).toNat : Int) := rfl
theorem bits_xor64 (a b : Int) : bitsOf .xor .u64 a b = IntKind.u64.wrap ((BitVec.ofInt 64 a ^^^ BitVec.ofInt 64 b).toNat : Int) := rfl
theorem bits_xor64i (a b : Int) : bitsOf .xor .i64 a b = IntKind.i64.wrap ((BitVec.ofInt 64 a ^^^ BitVec.ofInt 64 b).toNat : Int) := rfl
/-- a sum of digits by 'or' -/
theorem or_byte (v : Nat) (x : UInt8) (h : v < 72057594037927936) : bitsOf .or .u64 ((v * 256 : Nat) : Int) ((x.toNat : Nat) : Int) = ((256 * v + x.toNat : Nat) : Int) := by
  have hx := x.toNat_lt
  have h1 : IntKind.u64.bits = 64 := rfl
  rw [bits_or64]
  have e1 : (BitVec.ofInt 64 ((v * 256 : Nat) : Int)).toNat = v * 256 := by rw [BitVec.ofInt_natCast, BitVec.toNat_ofNat]; omega
  have e2 : (BitVec.ofInt 64 ((x.toNat : Nat) : Int)).toNat = x.toNat := by rw [BitVec.ofInt_natCast, BitVec.toNat_ofNat]; omega
  have e3 : (BitVec.ofInt 64 ((v * 256 : Nat) : Int) ||| BitVec.ofInt 64 ((x.toNat : Nat) : Int)).toNat = 256 * v + x.toNat := by
    rw [BitVec.toNat_or, e1, e2, show v * 256 = v <<< 8 by rw [Nat.shiftLeft_eq], ← Nat.shiftLeft_add_eq_or_of_lt (by omega), Nat.shiftLeft_eq]
    omega
  rw [e3]
  exact wrap_u64 (by omega) rfl
/-- The fold of a number with a sign. -/
def zig (n : Int) : Nat := if 0 ≤ n then (2 * n).toNat else (-2 * n - 1).toNat
/-- and back -/
def unzig (u : Nat) : Int := if u % 2 = 0 then ((u / 2 : Nat) : Int) else -((u / 2 : Nat) : Int) - 1
theorem zig_lt {n : Int} (h1 : -9223372036854775808 ≤ n) (h2 : n ≤ 9223372036854775807) : zig n < 18446744073709551616 := by unfold zig; split <;> omega
theorem unzig_zig (n : Int) : unzig (zig n) = n := by unfold zig unzig; split <;> split <;> omega
theorem zig_unzig (u : Nat) : zig (unzig u) = u := by unfold unzig; split <;> (unfold zig; split <;> omega)
theorem unzig_range {u : Nat} (h : u < 18446744073709551616) : -9223372036854775808 ≤ unzig u ∧ unzig u ≤ 9223372036854775807 := by unfold unzig; split <;> omega
theorem zig_bits {n : Int} (h1 : -9223372036854775808 ≤ n) (h2 : n ≤ 9223372036854775807) :
    bitsOf .xor .u64 (IntKind.u64.wrap (IntKind.u64.wrap n * 2 ^ (min (1 : Int).toNat IntKind.u64.bits))) (IntKind.u64.wrap (Int.fdiv n (2 ^ (min (63 : Int).toNat IntKind.i64.bits)))) = ((zig n : Nat) : Int) := by
  have hb : IntKind.u64.bits = 64 := rfl
  have hb2 : IntKind.i64.bits = 64 := rfl
  have w64 : ∀ z : Int, IntKind.u64.wrap z = z % 18446744073709551616 := fun z => by simp [IntKind.wrap, IntKind.signed, IntKind.bits]
  have e2 : (2 : Int) ^ (min (1 : Int).toNat 64) = 2 := by decide
  have e3 : (2 : Int) ^ (min (63 : Int).toNat 64) = 9223372036854775808 := by decide
  rw [hb, hb2, e2, e3]
  have hf : Int.fdiv n 9223372036854775808 = if 0 ≤ n then 0 else -1 := by
    rw [Int.fdiv_eq_ediv_of_nonneg _ (by decide)]; split <;> omega
  rw [hf]
  rw [bits_xor64]
  by_cases h0 : 0 ≤ n
  · rw [if_pos h0]
    have e4 : IntKind.u64.wrap (IntKind.u64.wrap n * 2) = 2 * n := by rw [w64, w64]; omega
    have e5 : IntKind.u64.wrap 0 = 0 := by rw [w64]; rfl
    rw [e4, e5]
    have e6 : (BitVec.ofInt 64 (2 * n) ^^^ BitVec.ofInt 64 0).toNat = (2 * n).toNat := by
      have : BitVec.ofInt 64 0 = 0#64 := rfl
      rw [this, BitVec.xor_zero, BitVec.toNat_ofInt]; omega
    rw [e6, w64]; unfold zig; rw [if_pos h0]; omega
  · rw [if_neg h0]
    have e4 : IntKind.u64.wrap (IntKind.u64.wrap n * 2) = 2 * n + 18446744073709551616 := by rw [w64, w64]; omega
    have e5 : IntKind.u64.wrap (-1) = 18446744073709551615 := by rw [w64]; rfl
    rw [e4, e5]
    have e6 : (BitVec.ofInt 64 (2 * n + 18446744073709551616) ^^^ BitVec.ofInt 64 18446744073709551615).toNat = (-2 * n - 1).toNat := by
      have : BitVec.ofInt 64 18446744073709551615 = BitVec.allOnes 64 := by decide
      rw [this, BitVec.xor_allOnes, BitVec.toNat_not, BitVec.toNat_ofInt]; omega
    rw [e6, w64]; unfold zig; rw [if_neg h0]; omega
theorem unzig_bits {u : Nat} (h : u < 18446744073709551616) :
    bitsOf .xor .i64 (IntKind.i64.wrap (Int.fdiv ((u : Nat) : Int) (2 ^ (min (1 : Int).toNat IntKind.u64.bits)))) (IntKind.i64.wrap (0 - IntKind.i64.wrap (bitsOf .and .u64 ((u : Nat) : Int) 1))) = unzig u := by
  have hb : IntKind.u64.bits = 64 := rfl
  have hb2 : IntKind.i64.bits = 64 := rfl
  have e2 : (2 : Int) ^ (min (1 : Int).toNat 64) = 2 := by decide
  have ha : bitsOf .and .u64 ((u : Nat) : Int) 1 = ((u % 2 : Nat) : Int) := by
    rw [bits_and64]
    have : (BitVec.ofInt 64 ((u : Nat) : Int) &&& BitVec.ofInt 64 1).toNat = u % 2 := by
      rw [BitVec.toNat_and, BitVec.ofInt_natCast, BitVec.toNat_ofNat, show (BitVec.ofInt 64 1).toNat = 1 by decide, Nat.and_one_is_mod]; omega
    rw [this]; exact wrap_u64 (by omega) rfl
  rw [hb, e2, ha, Int.fdiv_eq_ediv_of_nonneg _ (by decide)]
  rw [wrap_i64 (z := ((u : Nat) : Int) / 2) (r := ((u / 2 : Nat) : Int)) (by omega) (by omega), wrap_i64 (z := ((u % 2 : Nat) : Int)) (by omega) rfl]
  rw [bits_xor64i]
  by_cases h0 : u % 2 = 0
  · rw [h0, show IntKind.i64.wrap (0 - ((0 : Nat) : Int)) = 0 by decide]
    have e6 : (BitVec.ofInt 64 ((u / 2 : Nat) : Int) ^^^ BitVec.ofInt 64 0).toNat = u / 2 := by
      have : BitVec.ofInt 64 0 = 0#64 := rfl
      rw [this, BitVec.xor_zero, BitVec.toNat_ofInt]; omega
    rw [e6]; unfold unzig; rw [if_pos h0]; exact wrap_i64 (by omega) rfl
  · rw [show u % 2 = 1 by omega, show IntKind.i64.wrap (0 - ((1 : Nat) : Int)) = -1 by decide]
    have e6 : (BitVec.ofInt 64 ((u / 2 : Nat) : Int) ^^^ BitVec.ofInt 64 (-1)).toNat = 18446744073709551615 - u / 2 := by
      have : BitVec.ofInt 64 (-1) = BitVec.allOnes 64 := by decide
      rw [this, BitVec.xor_allOnes, BitVec.toNat_not, BitVec.toNat_ofInt]; omega
    rw [e6]; unfold unzig; rw [if_neg h0]
    simp only [IntKind.wrap, IntKind.signed, IntKind.bits, Bool.true_and, decide_eq_true_eq, ge_iff_le]
    split <;> omega

theorem beVal_lt7 (l : List UInt8) (h : l.length ≤ 7) : beVal l < 72057594037927936 := by
  have h1 := beVal_lt l
  have : 256 ^ l.length ≤ 256 ^ 7 := Nat.pow_le_pow_right (by decide) h
  have e : (256 : Nat) ^ 7 = 72057594037927936 := by decide
  omega
theorem beVal_drop_take {b : List UInt8} {j : Nat} (h : j + 1 < b.length) : beVal ((b.drop 1).take (j + 1)) = 256 * beVal ((b.drop 1).take j) + (b.getD (j + 1) 0).toNat := by
  rw [beVal_take (by simp; omega)]
  congr 2
  simp [List.getD, Nat.add_comm 1 j]
theorem take_all_of {α} {l : List α} {j k : Nat} (h : j = k ∨ (j ≤ k ∧ l.length ≤ j)) : l.take j = l.take k := by
  rcases h with rfl | ⟨h1, h2⟩
  · rfl
  · rw [List.take_of_length_le h2, List.take_of_length_le (by omega)]
/-- what the reference reads -/
def refNum (b : List UInt8) : Nat := if (b.getD 0 0).toNat ≤ 247 then (b.getD 0 0).toNat else beVal ((b.drop 1).take ((b.getD 0 0).toNat - 247))
theorem refNum_lt (b : List UInt8) : refNum b < 18446744073709551616 := by
  unfold refNum
  have hx := (b.getD 0 0).toNat_lt
  split
  · omega
  · have h1 := beVal_lt ((b.drop 1).take ((b.getD 0 0).toNat - 247))
    have h2 := pow256_le (k := ((b.drop 1).take ((b.getD 0 0).toNat - 247)).length) (by rw [List.length_take]; omega)
    omega
theorem readNum_ref_yes {b : List UInt8} (h : b.take (numBytes (refNum b)).length = numBytes (refNum b)) : readN b = (refNum b, (numBytes (refNum b)).length, 0) :=
  readN_some ((readNum_some_iff b _ _).2 ⟨refNum_lt b, rfl, h⟩)
theorem readNum_ref_no {b : List UInt8} (h0 : b.length ≠ 0) (h : ¬ b.take (numBytes (refNum b)).length = numBytes (refNum b)) : readN b = (0, 0, 12) := by
  rcases readN_cases b with ⟨_, h1⟩ | ⟨n, u, h1, _⟩
  · exact h1
  · exfalso
    apply h
    have h2 := (readNum_some_iff b n u).1 h1
    have : n = refNum b := by
      unfold readNum at h1
      unfold refNum
      rw [if_neg h0] at h1
      by_cases h3 : (b.getD 0 0).toNat ≤ 247
      · rw [if_pos h3] at h1 ⊢
        simp only [Option.some.injEq, Prod.mk.injEq] at h1
        exact h1.1.symm
      · rw [if_neg h3] at h1 ⊢
        split at h1
        · cases h1
        · simp only [Option.some.injEq, Prod.mk.injEq] at h1
          exact h1.1.symm
    rw [← this, ← h2.2.1]
    exact h2.2.2

/-- What is read of a number with a sign. -/
def readS (b : List UInt8) : Int × Nat × Nat := if (readN b).2.2 = 0 then (unzig (readN b).1, (readN b).2.1, 0) else (0, 0, (readN b).2.2)
theorem readS_ok {b : List UInt8} (h : (readN b).2.2 = 0) : readS b = (unzig (readN b).1, (readN b).2.1, 0) := by unfold readS; rw [if_pos h]
theorem readS_no {b : List UInt8} (h : ¬ (readN b).2.2 = 0) : readS b = (0, 0, (readN b).2.2) := by unfold readS; rw [if_neg h]
theorem readN_of {b : List UInt8} {n : Nat} (hn : n < 18446744073709551616) (h : numBytes n = b) : readN b = (n, b.length, 0) :=
  readN_some ((readNum_some_iff b n _).2 ⟨hn, by rw [h], by rw [List.take_length]; exact h.symm⟩)

theorem readN_used (b : List UInt8) : (readN b).2.1 ≤ b.length := by
  rcases readN_cases b with ⟨_, h⟩ | ⟨n, u, h1, h⟩
  · rw [h]; simp
  · rw [h]; exact (readNum_lt h1).2.2.2
/-- The bytes of some parts of width k, where they end, the error. -/
def partL (b : List UInt8) (most : Int) (k : Nat) : List UInt8 × Nat × Nat :=
  if most < 0 then ([], 0, 2)
  else if (readN b).2.2 ≠ 0 ∨ most < ((readN b).1 : Int) ∨ (b.length - (readN b).2.1) / k < (readN b).1 then ([], 0, 12)
  else ((b.drop (readN b).2.1).take (k * (readN b).1), (readN b).2.1 + k * (readN b).1, 0)
theorem partL_arg {b : List UInt8} {most : Int} {k : Nat} (h : most < 0) : partL b most k = ([], 0, 2) := by unfold partL; rw [if_pos h]
theorem partL_bad {b : List UInt8} {most : Int} {k : Nat} (h : ¬ most < 0) (h2 : (readN b).2.2 ≠ 0 ∨ most < ((readN b).1 : Int) ∨ (b.length - (readN b).2.1) / k < (readN b).1) : partL b most k = ([], 0, 12) := by
  unfold partL; rw [if_neg h, if_pos h2]
theorem partL_good {b : List UInt8} {most : Int} {k : Nat} (h : ¬ most < 0) (h2 : ¬ ((readN b).2.2 ≠ 0 ∨ most < ((readN b).1 : Int) ∨ (b.length - (readN b).2.1) / k < (readN b).1)) :
    partL b most k = ((b.drop (readN b).2.1).take (k * (readN b).1), (readN b).2.1 + k * (readN b).1, 0) := by
  unfold partL; rw [if_neg h, if_neg h2]
theorem part_fits {b : List UInt8} {k : Nat} (h2 : ¬ (b.length - (readN b).2.1) / k < (readN b).1) : k * (readN b).1 ≤ b.length - (readN b).2.1 := by
  have h3 : (readN b).1 ≤ (b.length - (readN b).2.1) / k := by omega
  exact Nat.le_trans (Nat.mul_le_mul_left _ h3) (Nat.mul_div_le _ _)
/-- The bytes of a string, and the error. -/
def bytesOf (s : List UInt8) : List UInt8 × Nat := if 10000 < s.length then ([], 4) else (numBytes s.length ++ s, 0)
theorem bytesOf_many {s : List UInt8} (h : 10000 < s.length) : bytesOf s = ([], 4) := by unfold bytesOf; rw [if_pos h]
theorem bytesOf_ok {s : List UInt8} (h : ¬ 10000 < s.length) : bytesOf s = (numBytes s.length ++ s, 0) := by unfold bytesOf; rw [if_neg h]

theorem partL_len (b : List UInt8) (most : Int) (k : Nat) : (partL b most k).1.length ≤ b.length := by
  unfold partL; split
  · simp
  · split
    · simp
    · simp only [List.length_take, List.length_drop]; omega
/-- Bytewise before. -/
def bLt : List UInt8 → List UInt8 → Bool
  | _, [] => false
  | [], _ :: _ => true
  | x :: l, y :: m => if x = y then bLt l m else decide (x.toNat < y.toNat)
theorem drop_getD {l : List UInt8} {i : Nat} (h : i < l.length) : l.drop i = l.getD i 0 :: l.drop (i + 1) := by
  rw [List.drop_eq_getElem_cons h]; simp [List.getD, h]
theorem bLt_step {x y : List UInt8} {i : Nat} (hx : i < x.length) (hy : i < y.length) (h : x.getD i 0 = y.getD i 0) : bLt (x.drop i) (y.drop i) = bLt (x.drop (i + 1)) (y.drop (i + 1)) := by
  rw [drop_getD hx, drop_getD hy, bLt, if_pos h]
theorem bLt_diff {x y : List UInt8} {i : Nat} (hx : i < x.length) (hy : i < y.length) (h : (((x.getD i 0).toNat : Nat) : Int) ≠ (((y.getD i 0).toNat : Nat) : Int)) :
    bLt (x.drop i) (y.drop i) = decide ((((x.getD i 0).toNat : Nat) : Int) < (((y.getD i 0).toNat : Nat) : Int)) := by
  rw [drop_getD hx, drop_getD hy, bLt, if_neg (fun e => h (by rw [e]))]
  exact decide_eq_decide.2 (by omega)
theorem bLt_end {x y : List UInt8} {i : Nat} (hx : i ≤ x.length) (hy : i ≤ y.length) (h : i = x.length ∨ i = y.length) : bLt (x.drop i) (y.drop i) = decide (((x.length : Nat) : Int) < ((y.length : Nat) : Int)) := by
  by_cases h1 : i < y.length
  · have h2 : i = x.length := by omega
    rw [show x.drop i = [] from List.drop_of_length_le (by omega), drop_getD h1, bLt, decide_eq_true (by omega)]
  · rw [show y.drop i = [] from List.drop_of_length_le (by omega)]
    cases x.drop i <;> (rw [bLt, decide_eq_false (by omega)])

theorem beVal_cons (x : UInt8) (l : List UInt8) : beVal (x :: l) = x.toNat * 256 ^ l.length + beVal l := by
  have key : ∀ (l : List UInt8) (a : Nat), l.foldl (fun n x => 256 * n + x.toNat) a = a * 256 ^ l.length + beVal l := by
    intro l
    induction l with
    | nil => intro a; simp [beVal]
    | cons y l ih =>
      intro a
      simp only [List.foldl_cons, List.length_cons, beVal]
      rw [ih, ih (256 * 0 + y.toNat), Nat.pow_succ]
      simp only [Nat.mul_zero, Nat.zero_add, Nat.add_mul]
      rw [← Nat.mul_assoc, Nat.mul_comm (256 : Nat) a, Nat.mul_right_comm]
      omega
  have := key l x.toNat
  simpa [beVal] using this
theorem bLt_beVal : ∀ (l m : List UInt8), l.length = m.length → beVal l < beVal m → bLt l m = true
  | [], [], _, h => by simp [beVal] at h
  | x :: l, y :: m, hl, h => by
    simp only [List.length_cons, Nat.add_right_cancel_iff] at hl
    rw [beVal_cons, beVal_cons, ← hl] at h
    have h1 := beVal_lt l
    have h2 := beVal_lt m
    rw [← hl] at h2
    unfold bLt
    by_cases he : x = y
    · subst he
      rw [if_pos rfl]
      exact bLt_beVal l m hl (by omega)
    · rw [if_neg he]
      apply decide_eq_true
      have hne : x.toNat ≠ y.toNat := fun e => he (UInt8.toNat_inj.1 e)
      apply Classical.byContradiction
      intro hn
      have h3 : y.toNat + 1 ≤ x.toNat := by omega
      have h4 : (y.toNat + 1) * 256 ^ l.length ≤ x.toNat * 256 ^ l.length := Nat.mul_le_mul_right _ h3
      rw [Nat.add_mul] at h4
      omega
  | [], _ :: _, hl, _ => by simp at hl
  | _ :: _, [], hl, _ => by simp at hl
theorem numBytes_order {n m : Nat} (h : n < m) (hm : m < 18446744073709551616) : bLt (numBytes n) (numBytes m) = true ∧ (numBytes n).length ≤ (numBytes m).length := by
  have hdn := digits_le n (by omega)
  have hdm := digits_le m hm
  unfold numBytes
  by_cases h1 : m ≤ 247
  · rw [if_pos h1, if_pos (by omega)]
    refine ⟨?_, by simp⟩
    have hx : UInt8.ofNat n ≠ UInt8.ofNat m := fun e => by have := congrArg UInt8.toNat e; simp at this; omega
    rw [bLt, if_neg hx]; apply decide_eq_true; simp; omega
  · rw [if_neg h1]
    have hm1 : 1 ≤ (digits m).length := by rw [digits_pos m (by omega)]; simp
    by_cases h2 : n ≤ 247
    · rw [if_pos h2]
      refine ⟨?_, by simp⟩
      have hx : UInt8.ofNat n ≠ UInt8.ofNat (247 + (digits m).length) := fun e => by have := congrArg UInt8.toNat e; simp at this; omega
      rw [bLt, if_neg hx]; apply decide_eq_true; simp; omega
    · rw [if_neg h2]
      have hle : (digits n).length ≤ (digits m).length := by
        rw [digits_len, digits_len]
        have : bitLen n ≤ bitLen m := bitLen_le n _ (Nat.lt_trans h (bitLen_lt m))
        omega
      refine ⟨?_, by simp [hle]⟩
      by_cases h3 : (digits n).length = (digits m).length
      · rw [bLt, if_pos (by rw [h3])]
        exact bLt_beVal _ _ (by simp [h3]) (by rw [beVal_digits, beVal_digits]; exact h)
      · have hx : UInt8.ofNat (247 + (digits n).length) ≠ UInt8.ofNat (247 + (digits m).length) := fun e => by have := congrArg UInt8.toNat e; simp at this; omega
        rw [bLt, if_neg hx]; apply decide_eq_true; simp; omega
theorem bLt_irrefl : ∀ l : List UInt8, bLt l l = false
  | [] => rfl
  | x :: l => by rw [bLt, if_pos rfl]; exact bLt_irrefl l
theorem numBytes_inj {n m : Nat} (hn : n < 18446744073709551616) (hm : m < 18446744073709551616) (h : numBytes n = numBytes m) : n = m := by
  rcases Nat.lt_trichotomy n m with h1 | h1 | h1
  · have := (numBytes_order h1 hm).1; rw [h, bLt_irrefl] at this; cases this
  · exact h1
  · have := (numBytes_order h1 hn).1; rw [h, bLt_irrefl] at this; cases this
/-- The chapter's examples. -/
theorem nb247 : numBytes 247 = [247] := by simp [numBytes]
theorem nb248 : numBytes 248 = [248, 248] := by simp [numBytes, digits]
theorem nb256 : numBytes 256 = [249, 1, 0] := by simp [numBytes, digits]
theorem nbmax : numBytes 18446744073709551615 = [255, 255, 255, 255, 255, 255, 255, 255, 255] := by simp [numBytes, digits]
theorem nb1 : numBytes (zig (-1)) = [1] := by simp [zig, numBytes]
theorem nb124 : numBytes (zig (-124)) = [247] := by simp [zig, numBytes]
theorem rn_248_247 : readNum [248, 247] = none := by decide
theorem rn_249_0 : readNum [249, 0, 255] = none := by decide
theorem bytes_ab : bytesOf [97, 98] = ([2, 97, 98], 0) := by simp [bytesOf, numBytes]
end Go.Proofs.Ytklfgpdfongaeaa