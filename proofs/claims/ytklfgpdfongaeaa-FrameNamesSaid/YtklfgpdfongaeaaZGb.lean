import Derived.Test.YtklfgpdfongaeaaZGa
namespace Go.Proofs.Ytklfgpdfongaeaa
open Go
set_option linter.unusedSimpArgs false
set_option linter.unusedVariables false
section
variable {σ β α ρ τ : Type}
theorem bs (x : α) (f : α → Option β) : (some x >>= f) = f x := rfl
theorem or_l (r : ρ) (k : τ → Option ρ) : orRet (some (.inl r)) k = some r := rfl
theorem or_r (t : τ) (k : τ → Option ρ) : orRet (some (.inr t)) k = k t := rfl
theorem iter_l {F : σ → Option (Sum β σ)} {s : σ} {b : β} (h : F s = some (.inl b)) : iter F s = some b := by rw [iter, h]; rfl
theorem iter_r {F : σ → Option (Sum β σ)} {s s' : σ} (h : F s = some (.inr s')) : iter F s = iter F s' := by rw [iter, h]; rfl
theorem iter_up {F : σ → Option (Sum β σ)} (n : Nat) (I : Nat → σ → Prop) (Q : β → Prop) (h1 : ∀ i s, i < n → I i s → ∃ s', F s = some (.inr s') ∧ I (i + 1) s') (h2 : ∀ s, I n s → ∃ b, F s = some (.inl b) ∧ Q b) (s : σ) (i : Nat) (hi : i ≤ n) (hs : I i s) : ∃ b, iter F s = some b ∧ Q b := by
  have key : ∀ k i s, n - i = k → i ≤ n → I i s → ∃ b, iter F s = some b ∧ Q b := by
    intro k
    induction k with
    | zero =>
      intro i s hk hi hs
      have : i = n := by omega
      subst this
      obtain ⟨b, h3, h4⟩ := h2 s hs
      exact ⟨b, iter_l h3, h4⟩
    | succ k ih =>
      intro i s hk hi hs
      obtain ⟨s', h3, h4⟩ := h1 i s (by omega) hs
      rw [iter_r h3]; exact ih (i + 1) s' (by omega) (by omega) h4
  exact key _ i s rfl hi hs
theorem iter_run {F : σ → Option (Sum β σ)} (n : Nat) (g : Nat → σ) {b : β} (h1 : ∀ i, i < n → F (g i) = some (.inr (g (i + 1)))) (h2 : F (g n) = some (.inl b)) : iter F (g 0) = some b := by
  obtain ⟨b', h3, rfl⟩ := iter_up n (fun i s => s = g i) (fun x => x = b) (fun i s hi hs => ⟨_, by rw [hs]; exact h1 i hi, rfl⟩) (fun s hs => ⟨_, by rw [hs]; exact h2, rfl⟩) (g 0) 0 (Nat.zero_le _) rfl
  exact h3
theorem idx_nat {l : List α} {i : Nat} (h : i < l.length) : idx l (i : Int) = some l[i] := by simp [idx, h]
theorem idx_int {l : List α} {i : Int} (h0 : 0 ≤ i) (h : i.toNat < l.length) : idx l i = some l[i.toNat] := by simp [idx, h0, h]
theorem vidx_nat {n : Nat} {v : Vector α n} {i : Nat} (h : i < n) : vidx v (i : Int) = some v[i] := by unfold vidx; rw [idx_nat (by simpa using h)]; simp
theorem chk_true {p : Prop} [Decidable p] (h : p) : chk p = some () := by simp [chk, h]
theorem app_eq {by_ : Nat} {b c : List α} (h : (b.length + c.length) * by_ ≤ 140737488355328) : app by_ b c = some (b ++ c) := by simp [app, h]
theorem mkn_eq {by_ : Nat} {x : α} {n : Nat} (h : by_ * n ≤ 281474976710656) (h2 : n ≤ 9223372036854775807) : mkn by_ x (n : Int) = some (List.replicate n x) := by
  unfold mkn; rw [if_pos ⟨by omega, by simpa using h, by omega⟩]; simp
theorem cut_eq {b : List α} {i j : Nat} (h : i ≤ j) (hj : j ≤ b.length) : cut b (i : Int) (j : Int) = some ((b.drop i).take (j - i)) := by
  unfold cut; rw [if_pos ⟨by omega, by omega, by omega⟩]; simp
end
theorem w64_eq {x : Int} (h1 : -9223372036854775808 ≤ x) (h2 : x ≤ 9223372036854775807) : w64 x = x := wrap_i64' h1 h2
theorem w64_nat {n : Nat} (h : n < 9223372036854775807) : w64 ((n : Int) + 1) = ((n + 1 : Nat) : Int) := by rw [w64_eq (by omega) (by omega)]; omega
theorem shr64_toNat (a : UInt64) (n : Nat) : (shr64 a n).toNat = a.toNat / 2 ^ (min n 64) := by
  unfold shr64
  have h1 := UInt64.toNat_lt a
  have h2 : a.toNat / 2 ^ (min n 64) ≤ a.toNat := Nat.div_le_self _ _
  simp; omega
theorem shl64_toNat (a : UInt64) (n : Nat) : (shl64 a n).toNat = a.toNat * 2 ^ (min n 64) % 18446744073709551616 := by
  unfold shl64; simp
end Go.Proofs.Ytklfgpdfongaeaa
namespace Go.Proofs.Ytklfgpdfongaeaa
open Go
set_option linter.unusedSimpArgs false
set_option linter.unusedVariables false
def bitLen (n : Nat) : Nat := if n = 0 then 0 else n.log2 + 1
theorem bitLen_shift (n k : Nat) (h : 2 ^ k ≤ n) : bitLen n = k + bitLen (n / 2 ^ k) := by
  have hp : 0 < 2 ^ k := Nat.pow_pos (by decide)
  have h1 : n / 2 ^ k ≠ 0 := by
    have : 1 ≤ n / 2 ^ k := (Nat.le_div_iff_mul_le hp).2 (by rw [Nat.one_mul]; exact h)
    omega
  have h2 : n ≠ 0 := by omega
  unfold bitLen
  rw [if_neg h1, if_neg h2]
  have h3 : n.log2 = k + (n / 2 ^ k).log2 := by
    rw [Nat.log2_eq_iff h2]
    have h4 := (Nat.log2_eq_iff h1).1 rfl
    refine ⟨?_, ?_⟩
    · rw [Nat.pow_add, Nat.mul_comm]; exact (Nat.le_div_iff_mul_le hp).1 h4.1
    · rw [Nat.add_assoc, Nat.pow_add, Nat.mul_comm]; exact (Nat.div_lt_iff_lt_mul hp).1 h4.2
  omega
theorem bitLen_le (n k : Nat) (h : n < 2 ^ k) : bitLen n ≤ k := by
  unfold bitLen; split
  · omega
  · rename_i h0; have := (Nat.log2_lt h0).2 h; omega
def len8tab : ByteArray := ⟨#[0, 1, 2, 2, 3, 3, 3, 3, 4, 4, 4, 4, 4, 4, 4, 4, 5, 5, 5, 5, 5, 5, 5, 5, 5, 5, 5, 5, 5, 5, 5, 5, 6, 6, 6, 6, 6, 6, 6, 6, 6, 6, 6, 6, 6, 6, 6, 6, 6, 6, 6, 6, 6, 6, 6, 6, 6, 6, 6, 6, 6, 6, 6, 6, 7, 7, 7, 7, 7, 7, 7, 7, 7, 7, 7, 7, 7, 7, 7, 7, 7, 7, 7, 7, 7, 7, 7, 7, 7, 7, 7, 7, 7, 7, 7, 7, 7, 7, 7, 7, 7, 7, 7, 7, 7, 7, 7, 7, 7, 7, 7, 7, 7, 7, 7, 7, 7, 7, 7, 7, 7, 7, 7, 7, 7, 7, 7, 7, 8, 8, 8, 8, 8, 8, 8, 8, 8, 8, 8, 8, 8, 8, 8, 8, 8, 8, 8, 8, 8, 8, 8, 8, 8, 8, 8, 8, 8, 8, 8, 8, 8, 8, 8, 8, 8, 8, 8, 8, 8, 8, 8, 8, 8, 8, 8, 8, 8, 8, 8, 8, 8, 8, 8, 8, 8, 8, 8, 8, 8, 8, 8, 8, 8, 8, 8, 8, 8, 8, 8, 8, 8, 8, 8, 8, 8, 8, 8, 8, 8, 8, 8, 8, 8, 8, 8, 8, 8, 8, 8, 8, 8, 8, 8, 8, 8, 8, 8, 8, 8, 8, 8, 8, 8, 8, 8, 8, 8, 8, 8, 8, 8, 8, 8, 8, 8, 8, 8, 8, 8, 8, 8, 8, 8, 8, 8, 8]⟩
set_option maxRecDepth 100000 in
theorem len8_all : ∀ x : Fin 256, len8tab.data[x.val]? = some (UInt8.ofNat (bitLen x.val)) := by decide +kernel
def digits (n : Nat) : List UInt8 := if h : n = 0 then [] else UInt8.ofNat n :: digits (n / 256)
termination_by n
theorem digits_zero : digits 0 = [] := by rw [digits]; simp
theorem digits_pos (n : Nat) (h : n ≠ 0) : digits n = UInt8.ofNat n :: digits (n / 256) := by rw [digits]; simp [h]
def numBytes (n : Nat) : List UInt8 := if n ≤ 247 then [UInt8.ofNat n] else UInt8.ofNat (247 + (digits n).length) :: (digits n).reverse
theorem digits_len (n : Nat) : (digits n).length = (bitLen n + 7) / 8 := by
  induction n using Nat.strongRecOn with
  | _ n ih =>
    by_cases h : n = 0
    · subst h; rw [digits_zero]; simp [bitLen]
    · rw [digits_pos n h, List.length_cons, ih (n / 256) (by omega)]
      by_cases h2 : n < 256
      · have : n / 256 = 0 := by omega
        rw [this]
        have h3 : bitLen n ≤ 8 := bitLen_le n 8 h2
        have h4 : 1 ≤ bitLen n := by unfold bitLen; rw [if_neg h]; omega
        simp [bitLen] at h3 h4 ⊢
        rw [if_neg h] at h3 h4 ⊢; omega
      · have := bitLen_shift n 8 (by omega)
        rw [show (2 : Nat) ^ 8 = 256 from rfl] at this
        omega
theorem digits_get (n : Nat) : ∀ (i : Nat), i < (digits n).length → (digits n)[i]? = some (UInt8.ofNat (n / 256 ^ i)) := by
  induction n using Nat.strongRecOn with
  | _ n ih =>
    intro i hi
    by_cases h : n = 0
    · subst h; rw [digits_zero] at hi; simp at hi
    · rw [digits_pos n h] at hi ⊢
      cases i with
      | zero => simp
      | succ i =>
        simp only [List.length_cons] at hi
        rw [List.getElem?_cons_succ, ih (n / 256) (by omega) i (by omega), Nat.div_div_eq_div_mul]
        congr 3
        rw [Nat.pow_succ, Nat.mul_comm]
theorem digits_le (n : Nat) (h : n < 18446744073709551616) : (digits n).length ≤ 8 := by
  rw [digits_len]; have := bitLen_le n 64 (by simpa using h); omega
theorem numBytes_len (n : Nat) (h : n < 18446744073709551616) : 1 ≤ (numBytes n).length ∧ (numBytes n).length ≤ 9 := by
  unfold numBytes; have := digits_le n h; split <;> simp <;> omega
def fillNum (n i : Nat) : List UInt8 := UInt8.ofNat (247 + (digits n).length) :: (List.replicate ((digits n).length - i) 0 ++ ((digits n).take i).reverse)
theorem fillNum_len (n i : Nat) (h : i ≤ (digits n).length) : (fillNum n i).length = (digits n).length + 1 := by simp [fillNum]; omega
theorem fillNum_zero (n : Nat) : (List.replicate ((digits n).length + 1) (0 : UInt8)).set 0 (UInt8.ofNat (247 + (digits n).length)) = fillNum n 0 := by
  simp [fillNum, List.replicate_succ]
theorem fillNum_step (n i : Nat) (h : i < (digits n).length) : (fillNum n i).set ((digits n).length - i) (UInt8.ofNat (n / 2 ^ (8 * i))) = fillNum n (i + 1) := by
  have hg := digits_get n i h
  have he : n / 2 ^ (8 * i) = n / 256 ^ i := by rw [Nat.pow_mul]
  rw [he]
  unfold fillNum
  obtain ⟨m, hm⟩ : ∃ m, (digits n).length - i = m + 1 := ⟨(digits n).length - i - 1, by omega⟩
  have hm2 : (digits n).length - (i + 1) = m := by omega
  rw [hm, hm2, List.set_cons_succ, List.take_succ_eq_append_getElem h, List.reverse_append, List.reverse_singleton, List.replicate_succ']
  rw [List.getElem?_eq_getElem h, Option.some.injEq] at hg
  rw [hg, List.append_assoc, List.set_append_right _ _ (by simp)]
  simp
theorem fillNum_last (n : Nat) (h : 247 < n) : fillNum n (digits n).length = numBytes n := by
  unfold fillNum numBytes; rw [if_neg (by omega)]; simp
def beVal (l : List UInt8) : Nat := l.foldl (fun n x => 256 * n + x.toNat) 0
theorem beVal_snoc (l : List UInt8) (x : UInt8) : beVal (l ++ [x]) = 256 * beVal l + x.toNat := by simp [beVal]
theorem beVal_lt (l : List UInt8) : beVal l < 256 ^ l.length := by
  have : ∀ (m : List UInt8), beVal m.reverse < 256 ^ m.length := by
    intro m
    induction m with
    | nil => simp [beVal]
    | cons x m ih =>
      rw [List.reverse_cons, beVal_snoc, List.length_cons, Nat.pow_succ]
      have := x.toNat_lt
      omega
  have h := this l.reverse
  simpa using h
theorem digits_beVal : ∀ (l : List UInt8), (∀ x, l.getLast? = some x → x ≠ 0) → digits (beVal l.reverse) = l
  | [], _ => by simp [beVal, digits_zero]
  | x :: l, h => by
    rw [List.reverse_cons, beVal_snoc]
    have hx := x.toNat_lt
    have h1 : (256 * beVal l.reverse + x.toNat) / 256 = beVal l.reverse := by omega
    have h2 : UInt8.ofNat (256 * beVal l.reverse + x.toNat) = x := by
      apply UInt8.toNat_inj.1; simp <;> omega
    have hl : digits (beVal l.reverse) = l := by
      apply digits_beVal
      intro y hy
      cases l with
      | nil => simp at hy
      | cons z l => exact h y (by rw [List.getLast?_cons_cons]; exact hy)
    by_cases h0 : 256 * beVal l.reverse + x.toNat = 0
    · exfalso
      cases l with
      | nil =>
        have := h x (by simp)
        apply this
        apply UInt8.toNat_inj.1
        simp <;> omega
      | cons z l =>
        have : beVal (z :: l).reverse = 0 := by omega
        rw [this, digits_zero] at hl
        cases hl
    · rw [digits_pos _ h0, h1, h2, hl]
theorem beVal_digits (n : Nat) : beVal (digits n).reverse = n := by
  induction n using Nat.strongRecOn with
  | _ n ih =>
    by_cases h : n = 0
    · subst h; rw [digits_zero]; rfl
    · rw [digits_pos n h, List.reverse_cons, beVal_snoc, ih (n / 256) (by omega)]
      simp; omega
theorem digits_last (n : Nat) : ∀ x, (digits n).getLast? = some x → x ≠ 0 := by
  induction n using Nat.strongRecOn with
  | _ n ih =>
    intro x hx
    by_cases h : n = 0
    · subst h; rw [digits_zero] at hx; simp at hx
    · rw [digits_pos n h] at hx
      by_cases h2 : n / 256 = 0
      · rw [h2, digits_zero] at hx
        simp at hx
        subst hx
        intro e
        have := congrArg UInt8.toNat e
        simp at this; omega
      · rw [digits_pos _ h2, List.getLast?_cons_cons, ← digits_pos _ h2] at hx
        exact ih _ (by omega) x hx
def readNum (b : List UInt8) : Option (Nat × Nat) :=
  if b.length = 0 then none
  else if (b.getD 0 0).toNat ≤ 247 then some ((b.getD 0 0).toNat, 1)
  else if b.length ≤ (b.getD 0 0).toNat - 247 ∨ (b.getD 1 0).toNat = 0 ∨ ((b.getD 0 0).toNat - 247 = 1 ∧ (b.getD 1 0).toNat ≤ 247) then none
  else some (beVal ((b.drop 1).take ((b.getD 0 0).toNat - 247)), (b.getD 0 0).toNat - 247 + 1)
def readN (b : List UInt8) : Nat × Nat × Nat :=
  match readNum b with
  | some (n, u) => (n, u, 0)
  | none => (0, 0, 12)
theorem take_one {b : List UInt8} (h : b.length ≠ 0) : b.take 1 = [b.getD 0 0] := by cases b <;> simp_all
theorem take_succ_drop {b : List UInt8} (k : Nat) (h : b.length ≠ 0) : b.take (k + 1) = b.getD 0 0 :: (b.drop 1).take k := by cases b <;> simp_all
theorem drop_take_head {b : List UInt8} {k : Nat} (h1 : 1 ≤ k) (h : 2 ≤ b.length) : (b.drop 1).take k = b.getD 1 0 :: ((b.drop 1).take k).tail := by
  obtain ⟨m, rfl⟩ : ∃ m, k = m + 1 := ⟨k - 1, by omega⟩
  match b, h with
  | x :: y :: t, _ => simp
theorem ofNat_toNat (x : UInt8) : UInt8.ofNat x.toNat = x := by simp
theorem pow256_le {k : Nat} (h : k ≤ 8) : 256 ^ k ≤ 18446744073709551616 := by
  have : 256 ^ k ≤ 256 ^ 8 := Nat.pow_le_pow_right (by decide) h
  simpa using this
theorem readNum_some_iff (b : List UInt8) (n u : Nat) : readNum b = some (n, u) ↔ n < 18446744073709551616 ∧ u = (numBytes n).length ∧ b.take u = numBytes n := by
  constructor
  · intro h
    unfold readNum at h
    by_cases h0 : b.length = 0
    · rw [if_pos h0] at h; cases h
    · rw [if_neg h0] at h
      have hx := (b.getD 0 0).toNat_lt
      by_cases h1 : (b.getD 0 0).toNat ≤ 247
      · rw [if_pos h1] at h
        simp only [Option.some.injEq, Prod.mk.injEq] at h
        obtain ⟨rfl, rfl⟩ := h
        refine ⟨by omega, ?_, ?_⟩
        · unfold numBytes; rw [if_pos h1]; rfl
        · unfold numBytes; rw [if_pos h1, take_one h0, ofNat_toNat]
      · rw [if_neg h1] at h
        by_cases h2 : b.length ≤ (b.getD 0 0).toNat - 247 ∨ (b.getD 1 0).toNat = 0 ∨ ((b.getD 0 0).toNat - 247 = 1 ∧ (b.getD 1 0).toNat ≤ 247)
        · rw [if_pos h2] at h; cases h
        · rw [if_neg h2] at h
          simp only [Option.some.injEq, Prod.mk.injEq] at h
          obtain ⟨k, hk⟩ : ∃ k, (b.getD 0 0).toNat - 247 = k := ⟨_, rfl⟩
          rw [hk] at h h2
          obtain ⟨hn, rfl⟩ := h
          have hk1 : 1 ≤ k := by omega
          have hk8 : k ≤ 8 := by omega
          have hlen : k < b.length := by omega
          obtain ⟨d, hd⟩ : ∃ d, (b.drop 1).take k = d := ⟨_, rfl⟩
          rw [hd] at hn
          have hdl : d.length = k := by rw [← hd]; simp; omega
          have hd0 : d = b.getD 1 0 :: d.tail := by
            rw [← hd]
            exact drop_take_head hk1 (by omega)
          have hdig : digits n = d.reverse := by
            rw [← hn]
            have := digits_beVal d.reverse (by
              intro x hx
              rw [List.getLast?_reverse, hd0] at hx
              simp at hx
              subst hx
              intro e
              apply h2
              right; left
              have := congrArg UInt8.toNat e
              simpa using this)
            rw [List.reverse_reverse] at this
            exact this
          have hlt : n < 18446744073709551616 := by
            have h3 := beVal_lt d
            rw [hn, hdl] at h3
            exact Nat.lt_of_lt_of_le h3 (pow256_le hk8)
          have hgt : ¬ n ≤ 247 := by
            intro hle
            by_cases hk2 : k = 1
            · apply h2
              right; right
              refine ⟨hk2, ?_⟩
              have : d.tail = [] := List.eq_nil_of_length_eq_zero (by simp [hdl, hk2])
              rw [hd0, this] at hn
              simp [beVal] at hn
              simp at hle ⊢
              omega
            · have h3 : (digits n).length ≤ 1 := by
                rw [digits_len]
                have := bitLen_le n 8 (by omega)
                omega
              rw [hdig, List.length_reverse, hdl] at h3
              omega
          refine ⟨hlt, ?_, ?_⟩
          · unfold numBytes; rw [if_neg hgt, hdig]; simp [hdl]
          · unfold numBytes
            rw [if_neg hgt, hdig, List.reverse_reverse, List.length_reverse, hdl, take_succ_drop k h0, hd]
            have h247 : b.getD 0 0 = UInt8.ofNat (247 + k) := by
              apply UInt8.toNat_inj.1
              rw [UInt8.toNat_ofNat']
              omega
            rw [h247]
  · rintro ⟨hn, rfl, hb⟩
    have hl := congrArg List.length hb
    have h9 := numBytes_len n hn
    rw [List.length_take] at hl
    have h0 : b.length ≠ 0 := by omega
    unfold readNum
    rw [if_neg h0]
    by_cases h1 : n ≤ 247
    · have hnb : numBytes n = [UInt8.ofNat n] := by unfold numBytes; rw [if_pos h1]
      rw [hnb] at hb ⊢
      rw [show ([UInt8.ofNat n] : List UInt8).length = 1 from rfl, take_one h0] at hb
      injection hb with hb _
      have : (b.getD 0 0).toNat = n := by rw [hb]; simp; omega
      rw [if_pos (by omega), this]
      rfl
    · have hnb : numBytes n = UInt8.ofNat (247 + (digits n).length) :: (digits n).reverse := by unfold numBytes; rw [if_neg h1]
      have hd8 := digits_le n hn
      have hd1 : 1 ≤ (digits n).length := by rw [digits_pos n (by omega)]; simp
      rw [hnb] at hb hl ⊢
      simp only [List.length_cons, List.length_reverse] at hb hl ⊢
      rw [take_succ_drop _ h0] at hb
      injection hb with hb1 hb2
      have hx : (b.getD 0 0).toNat = 247 + (digits n).length := by rw [hb1]; simp; omega
      rw [if_neg (by omega), hx, Nat.add_sub_cancel_left]
      have hy : ∃ y, (digits n).getLast? = some y ∧ b.getD 1 0 = y := by
        have h3 : (digits n).reverse.head? = some (b.getD 1 0) := by
          rw [← hb2, drop_take_head hd1 (by omega)]
          rfl
        rw [List.head?_reverse] at h3
        exact ⟨_, h3, rfl⟩
      obtain ⟨y, hy1, hy2⟩ := hy
      have hy0 := digits_last n y hy1
      have h2 : ¬ (b.length ≤ (digits n).length ∨ (b.getD 1 0).toNat = 0 ∨ ((digits n).length = 1 ∧ (b.getD 1 0).toNat ≤ 247)) := by
        rintro (h | h | ⟨h, h'⟩)
        · omega
        · rw [hy2] at h
          apply hy0
          apply UInt8.toNat_inj.1
          simpa using h
        · rw [digits_pos n (by omega), List.length_cons] at h
          have h4 : digits (n / 256) = [] := List.eq_nil_of_length_eq_zero (by omega)
          have h5 : n / 256 = 0 := by
            by_cases h6 : n / 256 = 0
            · exact h6
            · rw [digits_pos _ h6] at h4; cases h4
          rw [digits_pos n (by omega), h4] at hy1
          simp at hy1
          rw [hy2, ← hy1] at h'
          simp at h'
          omega
      rw [if_neg h2, hb2, beVal_digits]
theorem readNum_lt {b : List UInt8} {n u : Nat} (h : readNum b = some (n, u)) : n < 18446744073709551616 ∧ 1 ≤ u ∧ u ≤ 9 ∧ u ≤ b.length := by
  obtain ⟨h1, h2, h3⟩ := (readNum_some_iff b n u).1 h
  have h4 := numBytes_len n h1
  have h5 := congrArg List.length h3
  rw [List.length_take] at h5
  omega
theorem readN_none {b : List UInt8} (h : readNum b = none) : readN b = (0, 0, 12) := by unfold readN; rw [h]
theorem readN_some {b : List UInt8} {n u : Nat} (h : readNum b = some (n, u)) : readN b = (n, u, 0) := by unfold readN; rw [h]
theorem readN_cases (b : List UInt8) : (readNum b = none ∧ readN b = (0, 0, 12)) ∨ ∃ n u, readNum b = some (n, u) ∧ readN b = (n, u, 0) := by
  cases h : readNum b with
  | none => exact .inl ⟨rfl, readN_none h⟩
  | some x => exact .inr ⟨x.1, x.2, rfl, readN_some h⟩
theorem readN_lt (b : List UInt8) : (readN b).1 < 18446744073709551616 ∧ (readN b).2.1 ≤ 9 ∧ ((readN b).2.2 = 0 ∨ (readN b).2.2 = 12) := by
  rcases readN_cases b with ⟨_, h⟩ | ⟨n, u, h1, h⟩
  · rw [h]; simp
  · rw [h]; have := readNum_lt h1; simp; omega
theorem readNum_nil {b : List UInt8} (h : b.length = 0) : readNum b = none := by unfold readNum; rw [if_pos h]
theorem readNum_small {b : List UInt8} (h : b.length ≠ 0) (h1 : (b.getD 0 0).toNat ≤ 247) : readNum b = some ((b.getD 0 0).toNat, 1) := by unfold readNum; rw [if_neg h, if_pos h1]
theorem readNum_bad {b : List UInt8} (h : b.length ≠ 0) (h1 : ¬ (b.getD 0 0).toNat ≤ 247) (h2 : b.length ≤ (b.getD 0 0).toNat - 247 ∨ (b.getD 1 0).toNat = 0 ∨ ((b.getD 0 0).toNat - 247 = 1 ∧ (b.getD 1 0).toNat ≤ 247)) : readNum b = none := by
  unfold readNum; rw [if_neg h, if_neg h1, if_pos h2]
theorem readNum_good {b : List UInt8} (h : b.length ≠ 0) (h1 : ¬ (b.getD 0 0).toNat ≤ 247) (h2 : ¬ (b.length ≤ (b.getD 0 0).toNat - 247 ∨ (b.getD 1 0).toNat = 0 ∨ ((b.getD 0 0).toNat - 247 = 1 ∧ (b.getD 1 0).toNat ≤ 247))) :
    readNum b = some (beVal ((b.drop 1).take ((b.getD 0 0).toNat - 247)), (b.getD 0 0).toNat - 247 + 1) := by
  unfold readNum; rw [if_neg h, if_neg h1, if_neg h2]
theorem take_snoc {l : List UInt8} {i : Nat} (h : i < l.length) : l.take (i + 1) = l.take i ++ [l.getD i 0] := by
  rw [List.take_succ_eq_append_getElem h]; simp [List.getD, h]
theorem beVal_take {l : List UInt8} {i : Nat} (h : i < l.length) : beVal (l.take (i + 1)) = 256 * beVal (l.take i) + (l.getD i 0).toNat := by rw [take_snoc h, beVal_snoc]
theorem beVal_take_lt {l : List UInt8} {i : Nat} (h : i < l.length) (h8 : l.length ≤ 8) : beVal (l.take (i + 1)) < 18446744073709551616 ∧ 256 * beVal (l.take i) + (l.getD i 0).toNat < 18446744073709551616 ∧ beVal (l.take i) < 72057594037927936 := by
  have h1 := beVal_lt (l.take (i + 1))
  rw [List.length_take, Nat.min_eq_left (by omega)] at h1
  have h2 := pow256_le (k := i + 1) (by omega)
  have h3 := beVal_take h
  omega
theorem readN_used (b : List UInt8) : (readN b).2.1 ≤ b.length := by
  rcases readN_cases b with ⟨_, h⟩ | ⟨n, u, h1, h⟩
  · rw [h]; simp
  · rw [h]; exact (readNum_lt h1).2.2.2
def partL (b : List UInt8) (most : Int) (k : Nat) : List UInt8 × Nat × Nat :=
  if most < 0 then ([], 0, 2)
  else if (readN b).2.2 ≠ 0 ∨ most < ((readN b).1 : Int) ∨ (b.length - (readN b).2.1) / k < (readN b).1 then ([], 0, 12)
  else ((b.drop (readN b).2.1).take (k * (readN b).1), (readN b).2.1 + k * (readN b).1, 0)
theorem partL_arg {b : List UInt8} {most : Int} {k : Nat} (h : most < 0) : partL b most k = ([], 0, 2) := by unfold partL; rw [if_pos h]
theorem partL_bad {b : List UInt8} {most : Int} {k : Nat} (h : ¬ most < 0) (h2 : (readN b).2.2 ≠ 0 ∨ most < ((readN b).1 : Int) ∨ (b.length - (readN b).2.1) / k < (readN b).1) : partL b most k = ([], 0, 12) := by
  unfold partL; rw [if_neg h, if_pos h2]
theorem partL_good {b : List UInt8} {most : Int} {k : Nat} (h : ¬ most < 0) (h2 : ¬ ((readN b).2.2 ≠ 0 ∨ most < ((readN b).1 : Int) ∨ (b.length - (readN b).2.1) / k < (readN b).1)) :
    partL b most k = ((b.drop (readN b).2.1).take (k * (readN b).1), (readN b).2.1 + k * (readN b).1, 0) := by
  unfold partL; rw [if_neg h, if_neg h2]
theorem part_fits {b : List UInt8} {k : Nat} (h2 : ¬ (b.length - (readN b).2.1) / k < (readN b).1) : k * (readN b).1 ≤ b.length - (readN b).2.1 := by
  have h3 : (readN b).1 ≤ (b.length - (readN b).2.1) / k := by omega
  exact Nat.le_trans (Nat.mul_le_mul_left _ h3) (Nat.mul_div_le _ _)
def bytesOf (s : List UInt8) : List UInt8 × Nat := if 10000 < s.length then ([], 4) else (numBytes s.length ++ s, 0)
theorem partL_len (b : List UInt8) (most : Int) (k : Nat) : (partL b most k).1.length ≤ b.length := by
  unfold partL; split
  · simp
  · split
    · simp
    · simp only [List.length_take, List.length_drop]; omega
end Go.Proofs.Ytklfgpdfongaeaa
namespace Go.Proofs.Ytklfgpdfongaeaa
open Go Go.RowKit
set_option linter.unusedSimpArgs false
set_option linter.unusedVariables false
section
variable {P : Program}
def EqR {α : Type} [DecidableEq α] (P : Program) (T : TypeId) (R : Rep α) (k : Nat) : Prop :=
  ∀ (d : Nat), k ≤ d → ∀ (S : Blk) (w : World) (c c' : List Value) (x y : α), R.rel S w c x → R.rel S w c' y → ∀ w', (Op.equalIn d T (R.val c) (R.val c')).run P w' = .ok (decide (x = y)) w'
theorem EqR.num {α : Type} [DecidableEq α] {T : TypeId} {k : IntKind} {f : α → Int} (hT : P.underlying T = some (.int k)) (hf : ∀ x y, f x = f y → x = y) : EqR P T (numR k f) 1 := fun d hd S w c c' x y h h' w' => by
  have h : c = [.int k (f x)] := h
  have h' : c' = [.int k (f y)] := h'
  subst h; subst h'
  obtain ⟨n, rfl⟩ : ∃ n, d = n + 1 := ⟨d - 1, by omega⟩
  show (Op.equalIn (n + 1) T (.int k (f x)) (.int k (f y))).run P w' = _
  rw [Go.run_equalIn_int w' n T k k _ _ hT]
  congr 1
  by_cases e : x = y
  · subst e; simp
  · rw [decide_eq_false e]; exact beq_false_of_ne (fun h => e (hf _ _ h))
theorem EqR.i64 {T : TypeId} (hT : P.underlying T = some (.int .i64)) : EqR P T i64R 1 := EqR.num hT (fun _ _ h => h)
theorem EqR.i32 {T : TypeId} (hT : P.underlying T = some (.int .i32)) : EqR P T i32R 1 := EqR.num hT (fun _ _ h => h)
theorem EqR.u8 {T : TypeId} (hT : P.underlying T = some (.int .u8)) : EqR P T u8R 1 := EqR.num hT (fun _ _ h => UInt8.toNat_inj.1 (Int.ofNat.inj h))
theorem EqR.u32 {T : TypeId} (hT : P.underlying T = some (.int .u32)) : EqR P T u32R 1 := EqR.num hT (fun _ _ h => UInt32.toNat_inj.1 (Int.ofNat.inj h))
theorem EqR.u64 {T : TypeId} (hT : P.underlying T = some (.int .u64)) : EqR P T u64R 1 := EqR.num hT (fun _ _ h => UInt64.toNat_inj.1 (Int.ofNat.inj h))
theorem EqR.bool {T : TypeId} (hT : P.underlying T = some .bool) : EqR P T boolR 1 := fun d hd S w c c' x y h h' w' => by
  have h : c = [.bool x] := h
  have h' : c' = [.bool y] := h'
  subst h; subst h'
  obtain ⟨n, rfl⟩ : ∃ n, d = n + 1 := ⟨d - 1, by omega⟩
  show (Op.equalIn (n + 1) T (.bool x) (.bool y)).run P w' = _
  rw [Go.run_equalIn_bool' w' n T _ _ hT]
  cases x <;> cases y <;> rfl
theorem run_part {α : Type} {R : Rep α} {S : Blk} {w : World} {T : TypeId} {x : α} {a c d : List Value} {xs : Array Value} (hx : xs.toList = a ++ c ++ d) (hr : R.rel S w c x) (hT : TyIs P T R.agg R.sz) (w' : World) : (part T xs a.length).run P w' = .ok (R.val c) w' := by
  have hlen := R.len hr
  unfold part
  unfold TyIs at hT
  unfold Rep.val
  cases ha : R.agg with
  | true =>
    rw [ha, if_pos rfl] at hT
    obtain ⟨⟨ds, h1, h2⟩, z, by_, h3⟩ := hT
    have hag : (isAgg T).run P w' = .ok true w' := by
      cases ds <;> simp only at h2 <;> simp [isAgg, run_underlying h1]
    have he : xs.extract a.length (a.length + R.sz) = c.toArray := by
      apply Array.toList_inj.1
      rw [Array.toList_extract, hx, List.extract_eq_take_drop, List.append_assoc, List.drop_left', ← hlen]
      · simp
      · rfl
    simp only [Sem.run_bind, hag, Result.andThen, if_true, run_sizeOf h3, Sem.run_pure, he]
    rfl
  | false =>
    rw [ha, if_neg (by simp)] at hT
    obtain ⟨ds, h1, h2⟩ := hT
    have hag : (isAgg T).run P w' = .ok false w' := by
      cases ds <;> simp only at h2 <;> simp [isAgg, run_underlying h1]
    rw [R.scal ha] at hlen
    match c, hlen with
    | [u], _ =>
      have he : xs[a.length]? = some u := by rw [← Array.getElem?_toList, hx]; simp
      simp only [Sem.run_bind, hag, Result.andThen, Bool.false_eq_true, if_false, he, Sem.run_pure]
      rfl
theorem EqR.items {α : Type} [DecidableEq α] {R : Rep α} {e : TypeId} {k d : Nat} (hE : EqR P e R k) (hk : k ≤ d) (hT : TyIs P e R.agg R.sz) {S : Blk} {w : World} {xs ys : Array Value} {l m : List α} (hx : relL R S w xs.toList l) (hy : relL R S w ys.toList m) (w' : World) : ∀ (is : List Nat), (∀ i ∈ is, i < l.length ∧ i < m.length) →
    (Op.eqItems d e R.sz xs ys is).run P w' = .ok (is.all fun i => decide (l[i]? = m[i]?)) w'
  | [], _ => rfl
  | i :: is, h => by
    obtain ⟨h1, h2⟩ := h i (by simp)
    obtain ⟨a, c, dd, e1, e2, e3, -⟩ := hx.split (List.getElem?_eq_getElem h1)
    obtain ⟨a', c', dd', f1, f2, f3, -⟩ := hy.split (List.getElem?_eq_getElem h2)
    have ih := EqR.items hE hk hT hx hy w' is (fun j hj => h j (by simp [hj]))
    have p1 := run_part (P := P) e1 e3 hT w'
    have p2 := run_part (P := P) f1 f3 hT w'
    rw [e2] at p1
    rw [f2] at p2
    have p3 := hE d hk S w c c' _ _ e3 f3 w'
    simp only [Op.eqItems, Sem.run_bind, p1, p2, p3, Result.andThen]
    rw [List.all_cons, List.getElem?_eq_getElem h1, List.getElem?_eq_getElem h2]
    by_cases hc : l[i] = m[i]
    · simp [hc, ih]
    · simp [hc, Sem.run_pure]
theorem EqR.arr {α : Type} [DecidableEq α] {R : Rep α} {T e : TypeId} {n k : Nat} {z : Value} {by_ : Nat} (hE : EqR P e R k) (hT : P.underlying T = some (.array n e)) (hI : TI P e z R.sz by_) (hTy : TyIs P e R.agg R.sz) : EqR P T (arrR n R) (k + 1) := fun d hd S w c c' x y h h' w' => by
  obtain ⟨d', rfl⟩ : ∃ d', d = d' + 1 := ⟨d - 1, by omega⟩
  obtain ⟨i, hi, -, hs, -⟩ := hI
  have hc : P.cellsOf e = R.sz := by unfold Program.cellsOf; rw [hi]; simpa using hs
  show (Op.equalIn (d' + 1) T (.agg c.toArray) (.agg c'.toArray)).run P w' = _
  rw [Go.run_equalIn_array w' d' c.toArray c'.toArray hT hi, hc, EqR.items hE (by omega) hTy (l := x.toList) (m := y.toList) h h' w' (List.range n) (fun i hi => by simpa using hi)]
  congr 1
  by_cases hxy : x = y
  · subst hxy; simp
  · rw [decide_eq_false hxy]
    refine Bool.eq_false_iff.2 fun h2 => hxy ?_
    apply Vector.toList_inj.1
    apply List.ext_getElem?
    intro i
    by_cases hi : i < n
    · have := List.all_eq_true.1 h2 i (by simpa using hi)
      exact of_decide_eq_true this
    · rw [List.getElem?_eq_none (by simp; omega), List.getElem?_eq_none (by simp; omega)]
def EqF {γ : Type} [DecidableEq γ] (P : Program) (fs : List Field) (o : Nat) (R : Rep γ) (k : Nat) : Prop :=
  ∀ (d : Nat), k ≤ d → ∀ (S : Blk) (w : World) (xs ys : Array Value) (x y : γ) (a a' : List Value), xs.toList = a ++ xs.toList.drop o → ys.toList = a' ++ ys.toList.drop o → a.length = o → a'.length = o → R.rel S w (xs.toList.drop o) x → R.rel S w (ys.toList.drop o) y → ∀ w', (Op.eqFields d xs ys fs).run P w' = .ok (decide (x = y)) w'
theorem EqF.nil {o : Nat} : EqF P [] o unitR 0 := fun d hd S w xs ys x y a a' _ _ _ _ h h' w' => by simp [Op.eqFields, Sem.run_pure]
theorem EqF.cons {α β : Type} [DecidableEq α] [DecidableEq β] {R : Rep α} {R2 : Rep β} {f : Field} {fs : List Field} {o k k2 : Nat} (h1 : EqR P f.type R k) (hT : TyIs P f.type R.agg R.sz) (ho : f.offset = o) (hn : (f.name == "_") = false) (h2 : EqF P fs (o + R.sz) R2 k2) : EqF P (f :: fs) o (prodR R R2) (max k k2) := fun d hd S w xs ys x y a a' hx hy ha ha' h h' w' => by
  obtain ⟨c, r, e1, e2, e3⟩ := h
  obtain ⟨c', r', f1, f2, f3⟩ := h'
  have hlc := R.len e2
  have hlc' := R.len f2
  have hdx : xs.toList.drop (o + R.sz) = r := by rw [← List.drop_drop, e1, ← hlc]; simp
  have hdy : ys.toList.drop (o + R.sz) = r' := by rw [← List.drop_drop, f1, ← hlc']; simp
  have p1 := run_part (P := P) (xs := xs) (a := a) (c := c) (d := r) (by rw [List.append_assoc, ← e1]; exact hx) e2 hT w'
  have p2 := run_part (P := P) (xs := ys) (a := a') (c := c') (d := r') (by rw [List.append_assoc, ← f1]; exact hy) f2 hT w'
  rw [ha] at p1
  rw [ha'] at p2
  have p3 := h1 d (by omega) S w c c' x.1 y.1 e2 f2 w'
  have ih := h2 d (by omega) S w xs ys x.2 y.2 (a ++ c) (a' ++ c') (by rw [hdx, List.append_assoc, ← e1]; exact hx) (by rw [hdy, List.append_assoc, ← f1]; exact hy) (by simp [ha, hlc]) (by simp [ha', hlc']) (by rw [hdx]; exact e3) (by rw [hdy]; exact f3) w'
  have hne : f.name ≠ "_" := by simpa using hn
  simp only [Op.eqFields, if_pos hne, Sem.run_bind, ho, p1, p2, p3, Result.andThen]
  by_cases hc : x.1 = y.1
  · simp only [hc, decide_true, Bool.not_true, Bool.false_eq_true, if_false, ih]
    congr 1
    rw [decide_eq_decide]
    exact ⟨fun h => Prod.ext hc h, fun h => by rw [h]⟩
  · have hxy : x ≠ y := fun h => hc (by rw [h])
    simp [hc, hxy, Sem.run_pure]
theorem EqR.struct {β γ : Type} [DecidableEq β] [DecidableEq γ] {R : Rep γ} {g : β → γ} {T : TypeId} {fs : Array Field} {k : Nat} (hF : EqF P fs.toList 0 R k) (hT : P.underlying T = some (.struct fs)) (hp : P.stoodInHeld T = false) (hg : ∀ x y, g x = g y → x = y) (hag : R.agg = true) : EqR P T (viaR g R) (k + 1) := fun d hd S w c c' x y h h' w' => by
  obtain ⟨d', rfl⟩ : ∃ d', d = d' + 1 := ⟨d - 1, by omega⟩
  have hfs : P.fieldsOf T = fs := by simp [Program.fieldsOf, hT]
  have e1 : (viaR g R).val c = .agg c.toArray := by simp [Rep.val, viaR, hag]
  have e2 : (viaR g R).val c' = .agg c'.toArray := by simp [Rep.val, viaR, hag]
  rw [e1, e2, Go.run_equalIn_struct w' d' T _ _ (by rw [hfs]; exact hT) hp, hfs]
  rw [hF d' (by omega) S w c.toArray c'.toArray (g x) (g y) [] [] (by simp) (by simp) rfl rfl (by simpa using (show R.rel S w c (g x) from h)) (by simpa using (show R.rel S w c' (g y) from h')) w']
  congr 1
  rw [decide_eq_decide]
  exact ⟨fun h => hg _ _ h, fun h => by rw [h]⟩
end
section
variable {C : World → World → Prop} {P : Program} {Γ : Ctx} {l : Slots} {res : Res} {d : Tmp} {ty : TypeId} {pos : String} {after : Array Edge} {g : Option (Nat × Bool)}
theorem neA {α : Type} [DecidableEq α] {R : Rep α} {T T' : TypeId} {x y : Operand} {a b : α} {k : Nat} (hx : opE l x = some (.rd R a)) (hy : opE l y = some (.rd R b)) (hE : EqR P T R k) (hk : Nat.ble k 10000 = true) (hag : R.agg = true) (hg : P.eqGuardType P.depth T = false) : Run C P Γ l res ⟨some d, .binOp .neq T x y T', ty, pos, after, g⟩ (.rd boolR (!decide (a = b))) := fun f w ha => by
  obtain ⟨c, h1, h2⟩ := ha.vl hx
  obtain ⟨c', h3, h4⟩ := ha.vl hy
  have e1 : f.eval x = .agg c.toArray := by rw [h2]; simp [Rep.val, hag]
  have e2 : f.eval y = .agg c'.toArray := by rw [h4]; simp [Rep.val, hag]
  refine ⟨_, fun w' _ => exec_bin (v := .bool (!decide (a = b))) ?_ ?_, rd_bool'⟩
  · rw [e1, e2]; exact Go.run_eqGuard_agg w' .neq T x y _ _ hg
  · have := hE 10000 (Nat.le_of_ble_eq_true hk) _ w c c' a b h1 h3 w'
    rw [show R.val c = .agg c.toArray by simp [Rep.val, hag], show R.val c' = .agg c'.toArray by simp [Rep.val, hag]] at this
    rw [e1, e2, Go.run_neq_struct, this]; rfl
end
end Go.Proofs.Ytklfgpdfongaeaa
namespace Go.Proofs.Ytklfgpdfongaeaa
open Go Go.RowKit
set_option linter.unusedSimpArgs false
set_option linter.unusedVariables false
theorem mixed : Try.prog.follows .mixedOrders = true := by kernel_rfl
theorem sc3 : Sc Try.prog 3 := ⟨_, Try.underlying3, trivial⟩
theorem ti3 : TI Try.prog 3 (.int .i64 (0)) 1 8 := TI.mk' (by kernel_rfl)
theorem sc5 : Sc Try.prog 5 := ⟨_, Try.underlying5, trivial⟩
theorem ti5 : TI Try.prog 5 (.int .u8 (0)) 1 1 := TI.mk' (by kernel_rfl)
theorem sc31 : Sc Try.prog 31 := ⟨_, Try.underlying31, trivial⟩
theorem ti31 : TI Try.prog 31 (.int .u64 (0)) 1 8 := TI.mk' (by kernel_rfl)
theorem sc32 : Sc Try.prog 32 := ⟨_, Try.underlying32, trivial⟩
theorem ti32 : TI Try.prog 32 (.slice none 0 0) 1 24 := TI.mk' (by kernel_rfl)
theorem sc83 : Sc Try.prog 83 := ⟨_, Try.underlying83, trivial⟩
theorem ti83 : TI Try.prog 83 (.slice none 0 0) 1 24 := TI.mk' (by kernel_rfl)
theorem ag102 : Ag Try.prog 102 := ⟨_, Try.underlying102, trivial⟩
theorem ti102 : TI Try.prog 102 (.agg #[.int .u8 (0), .int .u8 (0), .int .u8 (0), .int .u8 (0), .int .u8 (0), .int .u8 (0), .int .u8 (0), .int .u8 (0), .int .u8 (0), .int .u8 (0), .int .u8 (0), .int .u8 (0), .int .u8 (0), .int .u8 (0), .int .u8 (0), .int .u8 (0), .int .u8 (0), .int .u8 (0), .int .u8 (0), .int .u8 (0), .int .u8 (0), .int .u8 (0), .int .u8 (0), .int .u8 (0), .int .u8 (0), .int .u8 (0), .int .u8 (0), .int .u8 (0), .int .u8 (0), .int .u8 (0), .int .u8 (0), .int .u8 (0)]) 32 32 := TI.mk' (by kernel_rfl)
theorem sc103 : Sc Try.prog 103 := ⟨_, Try.underlying103, trivial⟩
theorem ti103 : TI Try.prog 103 (.slice none 0 0) 1 24 := TI.mk' (by kernel_rfl)
theorem ag105 : Ag Try.prog 105 := ⟨_, Try.underlying105, trivial⟩
theorem ti105 : TI Try.prog 105 (.agg #[.int .u8 (0), .int .u64 (0), .slice none 0 0, .slice none 0 0]) 4 64 := TI.mk' (by kernel_rfl)
theorem sc110 : Sc Try.prog 110 := ⟨_, Try.underlying110, trivial⟩
theorem ti110 : TI Try.prog 110 (.slice none 0 0) 1 24 := TI.mk' (by kernel_rfl)
end Go.Proofs.Ytklfgpdfongaeaa
namespace Go.Proofs.Ytklfgpdfongaeaa
open Go Go.RowKit
set_option linter.unusedSimpArgs false
set_option linter.unusedVariables false
structure api_Value where
  Kind : UInt8
  Num : Int
  Bits : UInt64
  Text : List UInt8
  deriving DecidableEq, Inhabited
structure api_Session where
  State : UInt8
  Faults : Int
  Frames : Int
  Ops : Int
  deriving DecidableEq, Inhabited
structure api_Frame where
  Kind : UInt8
  N : UInt64
  IDs : List (Vector UInt8 32)
  Ops : List (List UInt8)
  deriving DecidableEq, Inhabited
def R_api_Frame : Rep api_Frame := viaR (fun x => (x.Kind, x.N, x.IDs, x.Ops, ())) (prodR u8R (prodR u64R (prodR (sliceR (arrR 32 u8R)) (prodR (sliceR (sliceR u8R)) unitR))))
theorem pt_api_Frame_Kind (x : api_Frame) : Part R_api_Frame x 0 u8R x.Kind (fun y => { x with Kind := y }) := (Part.fst).via (fun _ => rfl)
theorem pt_api_Frame_N (x : api_Frame) : Part R_api_Frame x 1 u64R x.N (fun y => { x with N := y }) := (Part.snd Part.fst).via (fun _ => rfl)
theorem pt_api_Frame_IDs (x : api_Frame) : Part R_api_Frame x 2 (sliceR (arrR 32 u8R)) x.IDs (fun y => { x with IDs := y }) := (Part.snd (Part.snd Part.fst)).via (fun _ => rfl)
theorem pt_api_Frame_Ops (x : api_Frame) : Part R_api_Frame x 3 (sliceR (sliceR u8R)) x.Ops (fun y => { x with Ops := y }) := (Part.snd (Part.snd (Part.snd Part.fst))).via (fun _ => rfl)
structure api_Doing where
  Kind : UInt8
  Frame : api_Frame
  deriving DecidableEq, Inhabited
structure api_Meet where
  A : Int
  B : Int
  deriving DecidableEq, Inhabited
structure session_rule where
  state : UInt8
  kind : UInt8
  next : UInt8
  do_ : UInt8
  deriving DecidableEq, Inhabited
theorem zr101 : Zr (arrR 32 u8R) (Value.cells (.agg #[.int .u8 (0), .int .u8 (0), .int .u8 (0), .int .u8 (0), .int .u8 (0), .int .u8 (0), .int .u8 (0), .int .u8 (0), .int .u8 (0), .int .u8 (0), .int .u8 (0), .int .u8 (0), .int .u8 (0), .int .u8 (0), .int .u8 (0), .int .u8 (0), .int .u8 (0), .int .u8 (0), .int .u8 (0), .int .u8 (0), .int .u8 (0), .int .u8 (0), .int .u8 (0), .int .u8 (0), .int .u8 (0), .int .u8 (0), .int .u8 (0), .int .u8 (0), .int .u8 (0), .int .u8 (0), .int .u8 (0), .int .u8 (0)])).toList (Vector.replicate 32 0) := Zr.arr (c := (Value.cells (.int .u8 (0))).toList) (Zr.num rfl) rfl
theorem zr105 : Zr R_api_Frame (Value.cells (.agg #[.int .u8 (0), .int .u64 (0), .slice none 0 0, .slice none 0 0])).toList (⟨0, 0, [], []⟩ : api_Frame) := Zr.via (Zr.prod (Zr.num rfl) (Zr.prod (Zr.num rfl) (Zr.prod Zr.slice (Zr.prod Zr.slice Zr.unit rfl) rfl) rfl) rfl)
theorem ty3 : TyIs Try.prog 3 false 1 := .sc sc3
theorem ty5 : TyIs Try.prog 5 false 1 := .sc sc5
theorem ty31 : TyIs Try.prog 31 false 1 := .sc sc31
theorem ty32 : TyIs Try.prog 32 false 1 := .sc sc32
theorem ty83 : TyIs Try.prog 83 false 1 := .sc sc83
theorem ty102 : TyIs Try.prog 102 true 32 := .ag ag102 ti102
theorem ty103 : TyIs Try.prog 103 false 1 := .sc sc103
theorem ty105 : TyIs Try.prog 105 true 4 := .ag ag105 ti105
end Go.Proofs.Ytklfgpdfongaeaa
namespace Go.Proofs.Ytklfgpdfongaeaa
open Go Go.RowKit
set_option linter.unusedSimpArgs false
set_option linter.unusedVariables false
set_option maxRecDepth 100000 in
theorem eq102 : EqR Try.prog 102 (arrR 32 u8R) 2 := EqR.arr (EqR.u8 Try.underlying5) Try.underlying102 ti5 ty5
set_option maxRecDepth 100000 in
theorem gq102 : Try.prog.eqGuardType Try.prog.depth 102 = false := by kernel_rfl
end Go.Proofs.Ytklfgpdfongaeaa
namespace Go.Proofs.Ytklfgpdfongaeaa
open Go Go.RowKit
set_option linter.unusedSimpArgs false
set_option linter.unusedVariables false
theorem relL_u8 {S : Blk} {w : World} : ∀ {b : List UInt8} {xs : List Value}, relL u8R S w xs b → xs = b.map fun c => .int .u8 (c.toNat : Int)
  | [], xs, h => by simp only [relL] at h; simp [h]
  | c :: b, xs, h => by
    obtain ⟨u, d, rfl, h1, h2⟩ := h
    have h1 : u = [.int .u8 (c.toNat : Int)] := h1
    rw [relL_u8 h2, h1]; rfl
theorem max_u8 (a b : UInt8) : (if (a.toNat : Int) < (b.toNat : Int) then (b.toNat : Int) else (a.toNat : Int)) = ((max a b).toNat : Int) := by
  rw [show max a b = if a ≤ b then b else a from rfl]
  by_cases h : a ≤ b
  · have := UInt8.le_iff_toNat_le.1 h
    rw [if_pos h]; split <;> omega
  · have : ¬ a.toNat ≤ b.toNat := fun k => h (UInt8.le_iff_toNat_le.2 k)
    rw [if_neg h]; split <;> omega
theorem min_u8 (a b : UInt8) : (if (b.toNat : Int) < (a.toNat : Int) then (b.toNat : Int) else (a.toNat : Int)) = ((min a b).toNat : Int) := by
  rw [show min a b = if a ≤ b then a else b from rfl]
  by_cases h : a ≤ b
  · have := UInt8.le_iff_toNat_le.1 h
    rw [if_pos h]; split <;> omega
  · have : ¬ a.toNat ≤ b.toNat := fun k => h (UInt8.le_iff_toNat_le.2 k)
    rw [if_neg h]; split <;> omega
theorem max_u32 (a b : UInt32) : (if (a.toNat : Int) < (b.toNat : Int) then (b.toNat : Int) else (a.toNat : Int)) = ((max a b).toNat : Int) := by
  rw [show max a b = if a ≤ b then b else a from rfl]
  by_cases h : a ≤ b
  · have := UInt32.le_iff_toNat_le.1 h
    rw [if_pos h]; split <;> omega
  · have : ¬ a.toNat ≤ b.toNat := fun k => h (UInt32.le_iff_toNat_le.2 k)
    rw [if_neg h]; split <;> omega
theorem min_u32 (a b : UInt32) : (if (b.toNat : Int) < (a.toNat : Int) then (b.toNat : Int) else (a.toNat : Int)) = ((min a b).toNat : Int) := by
  rw [show min a b = if a ≤ b then a else b from rfl]
  by_cases h : a ≤ b
  · have := UInt32.le_iff_toNat_le.1 h
    rw [if_pos h]; split <;> omega
  · have : ¬ a.toNat ≤ b.toNat := fun k => h (UInt32.le_iff_toNat_le.2 k)
    rw [if_neg h]; split <;> omega
theorem max_u64 (a b : UInt64) : (if (a.toNat : Int) < (b.toNat : Int) then (b.toNat : Int) else (a.toNat : Int)) = ((max a b).toNat : Int) := by
  rw [show max a b = if a ≤ b then b else a from rfl]
  by_cases h : a ≤ b
  · have := UInt64.le_iff_toNat_le.1 h
    rw [if_pos h]; split <;> omega
  · have : ¬ a.toNat ≤ b.toNat := fun k => h (UInt64.le_iff_toNat_le.2 k)
    rw [if_neg h]; split <;> omega
theorem min_u64 (a b : UInt64) : (if (b.toNat : Int) < (a.toNat : Int) then (b.toNat : Int) else (a.toNat : Int)) = ((min a b).toNat : Int) := by
  rw [show min a b = if a ≤ b then a else b from rfl]
  by_cases h : a ≤ b
  · have := UInt64.le_iff_toNat_le.1 h
    rw [if_pos h]; split <;> omega
  · have : ¬ a.toNat ≤ b.toNat := fun k => h (UInt64.le_iff_toNat_le.2 k)
    rw [if_neg h]; split <;> omega
section
variable {α : Type} {C : World → World → Prop} {P : Program} {Γ : Ctx} {l : Slots} {res : Res} {d : Tmp} {ty : TypeId} {pos : String} {after : Array Edge} {g : Option (Nat × Bool)}
theorem cvBS {ws : List Nat} [LC C res ws] {b : List UInt8} {x : Operand} {S D e : TypeId} (hx : opE l x = some (.rd (sliceR u8R) b)) (hS : P.underlying S = some (.slice e)) (he : P.underlying e = some (.int .u8)) (hD : P.underlying D = some .string) :
    Run C P Γ l res ⟨some d, .convert S D x, ty, pos, after, g⟩ (.rd strR b) := fun a w ha => by
  obtain ⟨cs, ⟨p, c, xs, k1, k2, k3, k4⟩, k5⟩ := ha.vl hx
  subst k1
  have k5 : a.eval x = .slice p b.length c := k5
  have hxs := relL_u8 k3
  refine ⟨.string (strOfNums (b.map fun c => (c.toNat : Int))), fun w' hw' => ?_, _, ⟨_, rfl, ?_⟩, rfl⟩
  · have : (convert S D (.slice p b.length c)).run P w' = .ok (.string (strOfNums (b.map fun c => (c.toNat : Int)))) w' := by
      rcases k2.2 with ⟨hv, h0⟩ | ⟨b', o, sp, cap, hv, g1, g2, g4, g3⟩
      · simp only [Value.slice.injEq] at hv
        obtain ⟨rfl, _, rfl⟩ := hv
        have : b = [] := List.length_eq_zero_iff.1 h0
        subst this
        exact run_convert_bytes_nil w' S e hS he _ _ D hD
      · simp only [Value.slice.injEq, true_and] at hv
        obtain ⟨rfl, rfl⟩ := hv
        by_cases hb : b = []
        · subst hb
          have h1 := run_convert_bytes_string (P := P) w' S D e (some ⟨b', o, sp⟩) 0 c hS he hD
          have h2 := run_bytesToString (P := P) w' ⟨b', o, sp⟩ 0 c [] rfl
          rw [List.length_nil, h1, h2]; rfl
        · have hne : xs ≠ [] := by rw [hxs]; simpa using hb
          obtain rfl := g4.resolve_left hne
          refine run_convert_bytes_arg w' S e hS he b' o _ _ _ (by simp) (fun i hi => ?_) D hD
          have hc : xs[i]? = some (.int .u8 ((b.map fun c => (c.toNat : Int)).getD i 0)) := by rw [hxs]; simp [hi]
          have := g3 i _ hc
          unfold World.cell? at this ⊢
          rw [CW.shr hw' (k4 hne b' rfl)]; exact this
    simp [execOp, k5, this]
  · rw [strOfNums_data, List.map_map]
    have : ((fun n : Int => UInt8.ofNat n.toNat) ∘ fun c : UInt8 => (c.toNat : Int)) = id := by funext c; simp
    rw [this, List.map_id]
theorem B.max {x y : Operand} {at_ : Array TypeId} {a b : UInt8} (hx : opE l x = some (.rd u8R a)) (hy : opE l y = some (.rd u8R b)) : Run C P Γ l res ⟨some d, .call ⟨.builtin .max, #[x, y], at_⟩, ty, pos, after, g⟩ (.rd u8R (Max.max a b)) := maxi hx hy (max_u8 a b)
theorem B.min {x y : Operand} {at_ : Array TypeId} {a b : UInt8} (hx : opE l x = some (.rd u8R a)) (hy : opE l y = some (.rd u8R b)) : Run C P Γ l res ⟨some d, .call ⟨.builtin .min, #[x, y], at_⟩, ty, pos, after, g⟩ (.rd u8R (Min.min a b)) := mini hx hy (min_u8 a b)
theorem W.max {x y : Operand} {at_ : Array TypeId} {a b : UInt32} (hx : opE l x = some (.rd u32R a)) (hy : opE l y = some (.rd u32R b)) : Run C P Γ l res ⟨some d, .call ⟨.builtin .max, #[x, y], at_⟩, ty, pos, after, g⟩ (.rd u32R (Max.max a b)) := maxi hx hy (max_u32 a b)
theorem W.min {x y : Operand} {at_ : Array TypeId} {a b : UInt32} (hx : opE l x = some (.rd u32R a)) (hy : opE l y = some (.rd u32R b)) : Run C P Γ l res ⟨some d, .call ⟨.builtin .min, #[x, y], at_⟩, ty, pos, after, g⟩ (.rd u32R (Min.min a b)) := mini hx hy (min_u32 a b)
theorem U.max {x y : Operand} {at_ : Array TypeId} {a b : UInt64} (hx : opE l x = some (.rd u64R a)) (hy : opE l y = some (.rd u64R b)) : Run C P Γ l res ⟨some d, .call ⟨.builtin .max, #[x, y], at_⟩, ty, pos, after, g⟩ (.rd u64R (Max.max a b)) := maxi hx hy (max_u64 a b)
theorem U.min {x y : Operand} {at_ : Array TypeId} {a b : UInt64} (hx : opE l x = some (.rd u64R a)) (hy : opE l y = some (.rd u64R b)) : Run C P Γ l res ⟨some d, .call ⟨.builtin .min, #[x, y], at_⟩, ty, pos, after, g⟩ (.rd u64R (Min.min a b)) := mini hx hy (min_u64 a b)
theorem cutV {R : Rep α} {n : Nat} {v : Vector α n} {x : Operand} {T e : TypeId} {z : Value} {by_ : Nat} (hx : opE l x = some (.rp (arrR n R) v)) (hT : P.underlying T = some (.array n e)) (hE : TI P e z R.sz by_) (hn : Nat.blt 0 n = true) (hm : Nat.ble n 281474976710656 = true) (h0 : Nat.blt 0 R.sz = true) :
    Run C P Γ l res ⟨some d, .slice T x none none none, ty, pos, after, g⟩ (.rd (sliceR R) v.toList) := fun a w ha => by
  have hn : 0 < n := Eq.mp Nat.blt_eq hn
  have hm : n ≤ 281474976710656 := Nat.le_of_ble_eq_true hm
  obtain ⟨b, o, cs, h1, h2, h3, h4⟩ := ha.vl hx
  have hlen : v.toList.length = n := by simp
  refine ⟨.slice (some ⟨b, o, none⟩) v.toList.length n, fun w' _ => ?_, _, ⟨some ⟨b, o, none⟩, n, cs, rfl, ⟨by rw [hlen]; exact (relL.len (show relL R _ w cs v.toList from h3)).trans (by rw [hlen]), .inr ⟨b, o, none, n, rfl, by omega, by unfold maxLen; omega, .inr rfl, h4⟩⟩, h3, fun _ bb hbb => by cases hbb; exact h2⟩, rfl⟩
  rw [hlen]
  have hne : ¬ n = 0 := by omega
  simp [execOp, h1, Instr.sliceAt, run_underlying hT, Instr.sliceBounds, Instr.sureAddr, run_sizeOf hE, Sem.run_pure, Addr.add]
end
def Cont.iter (b : List UInt8) (q : Nat) : Cont where
  nil _ _ _ := False
  nilm _ h := h
  nilb h := h.elim
  rel S w v o := ∃ g s, v = .pointer (some ⟨g, 0, none⟩) ∧ o = .stringIter s q ∧ s.data.toList = b
  mono k h := h
section
variable {ρ : Type} {P : Program} {Γ : Ctx} {l : Slots} {res : Res} {m1 m2 : Option ρ} {os rest : List Oper} {N : ρ → Exit → Act → World → Prop} {d : Tmp} {ty : TypeId} {pos : String} {after : Array Edge} {g : Option (Nat × Bool)}
end
end Go.Proofs.Ytklfgpdfongaeaa
namespace Go.Proofs.Ytklfgpdfongaeaa
open Go Go.RowKit
set_option linter.unusedSimpArgs false
set_option linter.unusedVariables false
section
variable {ρ : Type} {P : Program} {Γ : Ctx} {l l0 : Slots} {res res0 : Res} {ws : List Nat} {m m1 m2 : Option ρ} {os : List Oper} {N : ρ → Exit → Act → World → Prop}
  {d : Tmp} {op : Op} {ty : TypeId} {pos : String} {after : Array Edge} {g : Option (Nat × Bool)} {fuel i : Nat} {listed listed' : Array Bool} {rest : List Oper}
def GO (P : Program) (os : List Oper) (Γ : Ctx) (l0 : Slots) (res0 : Res) (ws : List Nat) (l : Slots) (res : Res) (N : ρ → Exit → Act → World → Prop) (fuel : Nat) (listed : Array Bool) (i : Nat) (m : Option ρ) : Prop :=
  ∀ a w0 w, SH Γ l0 res0 ws l res a w0 w → ∀ r, m = some r → wpOp P os.toArray (N r) i (fun a' w' => CW res0 ws w0 w' ∧ wpAnyH P .any os.toArray (N r) (CW res0 ws w0) fuel (listed.setIfInBounds i true) a' w') a w
def AllP {α : Type} (p : α → Prop) : List α → Prop
  | [] => True
  | x :: l => p x ∧ AllP p l
theorem AllP.mem {α : Type} {p : α → Prop} : ∀ {l : List α}, AllP p l → ∀ x ∈ l, p x
  | [], _, x, h => by simp at h
  | y :: l, h, x, hx => by
    rcases List.mem_cons.1 hx with rfl | hx
    · exact h.1
    · exact AllP.mem h.2 x hx
theorem hAlt (is : List Nat) (hr : Region.ready .any os.toArray listed = is) (hne : is.isEmpty = false) (h : AllP (fun i => GO P os Γ l0 res0 ws l res N fuel listed i m) is) : GH P os Γ l0 res0 ws l res N (fuel + 1) listed m := fun a w0 w ha r hm =>
  wpAnyH_all hr (by intro e; rw [e] at hne; cases hne) (fun i hi => h.mem i hi a w0 w ha r hm)
theorem oDo {r : Nat} {x : Value → Value × Cont} (i : Nat) (hi : os.toArray[i]? = some ⟨some d, op, ty, pos, after, g⟩) (hg : Grd os l ⟨some d, op, ty, pos, after, g⟩ true) (hn : Nat.blt d Γ.n = true) (hl : listed.setIfInBounds i true = listed') (hw : ws.contains r = true)
    (he : Eff P Γ l res ⟨some d, op, ty, pos, after, g⟩ r x) (hx : ∀ u, (x u).1 = u) (k : ∀ u, GH P os Γ ((d, .val u) :: l0) res0 ws ((d, .val u) :: l) ((r, some (x u)) :: res) N fuel listed' m) : GO P os Γ l0 res0 ws l res N fuel listed i m := fun a w0 w ha ρ' hm => by
  obtain ⟨w', u, h1, h2, h3, h4⟩ := he a w ha.s
  have hgw := hg.wanted ha.s
  unfold wpOp
  simp only [hi, hgw, if_true]
  refine .inl ?_
  unfold Oper.wp; rw [h1]
  have hown : ∀ b, rblk (x u).1 = some b → (∃ v0 c0, lr res r = some (v0, c0) ∧ rblk v0 = some b) ∨ w.heap.size ≤ b := fun b hb => by
    by_cases h5 : w.heap.size ≤ b
    · exact .inr h5
    · refine .inl (Classical.byContradiction fun hno => ?_)
      have hc := h2.1.conts r _ _ (lr_cons.trans (if_pos rfl))
      by_cases hS : Shr Γ.H res w b
      · exact (h2.2 b hS).1.2.1 r _ _ (lr_cons.trans (if_pos rfl)) hb
      · have hK : ¬ Γ.K b := h2.1.own r _ _ (lr_cons.trans (if_pos rfl)) b hb
        refine hS ⟨by omega, fun r' v' c' hr' e => ?_, fun hh => hK (ha.s.hid b hh)⟩
        by_cases hrr : r = r'
        · subst hrr; exact hno ⟨v', c', hr', e⟩
        · exact h2.1.excl r _ _ r' v' c' (lr_cons.trans (if_pos rfl)) ((lr_cons.trans (if_neg hrr)).trans hr') hrr b hb e
  have hS := ha.grew hw h2 h4 hown
  refine ⟨hS.cw, ?_⟩
  rw [hl]
  exact k u _ w0 w' (hS.put hn ⟨rfl, h3⟩ ⟨rfl, h3⟩) ρ' hm
theorem oCall {σ : Type} {f : FuncId} {F : Func} {b : Code} {args : List Operand} {ats : Array TypeId} {pin : List Ent} {rin : Res} {m1 : Option σ} {q : σ → (Nat → Value) → Post} {kk : σ → Option ρ} (i : Nat) (ns : List Nat) (mp : List (Nat × Nat)) (e0 : σ → (Nat → Value) → Ent)
    (hi : os.toArray[i]? = some ⟨some d, .call ⟨.value (.func f), args.toArray, ats⟩, ty, pos, after, g⟩) (hl : listed.setIfInBounds i true = listed') (hg : Grd os l ⟨some d, .call ⟨.value (.func f), args.toArray, ats⟩, ty, pos, after, g⟩ true) (hn : Nat.blt d Γ.n = true)
    (hF : P.funcs[f]? = some F) (hB : F.body = some b) (hnm : (F.name == "runtime.NumGoroutine") = false) (hS : Spec P f pin rin m1 q) (hA : ArgsQ l args pin) (hr : SubR res rin ns) (hw : ns.all (fun n => ws.contains n) = true)
    (he0 : ∀ s nv v S w S' w', (retE (q s nv).ret).holds S w v → (e0 s nv).holds S' w' v)
    (k : ∀ s nv, GH P os Γ ((d, e0 s nv) :: l0) res0 ws ((d, retE (q s nv).ret) :: l) (aft ns mp (q s nv).res res) N fuel listed' (kk s)) :
    GO P os Γ l0 res0 ws l res N fuel listed i (m1 >>= kk) := fun a w0 w ha r hm => by
  cases hm1 : m1 with
  | none => rw [hm1] at hm; cases hm
  | some s =>
    rw [hm1] at hm
    have hgw := hg.wanted ha.s
    unfold wpOp
    simp only [hi, hgw, if_true]
    refine .inl ?_
    have hrun : (execOp a.eval ⟨some d, .call ⟨.value (.func f), args.toArray, ats⟩, ty, pos, after, g⟩).run P w = .ok (.enter f (args.map a.eval).toArray) w := by
      have e0 : a.eval (.func f) = .func (.func f) #[] #[] := rfl
      simp [execOp, resolve, e0, Deferred.ofValue, invoke, run_callF hF hB hnm]
    unfold Oper.wp; rw [hrun]
    simp only [Oper.upon]
    have hH : ∀ b, (fun b => Γ.H b ∨ ∃ r v c, lr res r = some (v, c) ∧ ns.contains r = false ∧ rblk v = some b) b ↔ Γ.H b ∨ ∃ r v c, lr res r = some (v, c) ∧ ns.contains r = false ∧ rblk v = some b := fun _ => Iff.rfl
    obtain ⟨h1, h2⟩ := ResOk.of ha.s hr hH
    refine (hS s hm1 _ _ w (ArgsQ.get ha.s h2 hA) h1).mono fun e w' hR => ?_
    obtain ⟨nv, vs, rfl, hp⟩ := hR
    obtain ⟨⟨h3, h5⟩, h4, h6⟩ := ha.s.called (mp := mp) hr hH hp
    have hlent : ∀ b, Bof rin b → (∃ r0 v0 c0, ws.contains r0 = true ∧ lr res0 r0 = some (v0, c0) ∧ rblk v0 = some b) ∨ w0.heap.size ≤ b := fun b ⟨r', v, c, q1, q2⟩ => by
      obtain ⟨n, q3, q4⟩ := hr.get q1
      have hn' : ws.contains n = true := by simpa using (List.all_eq_true.1 hw) n q3
      exact ha.wsp n v c b hn' q4 q2
    have hcw : CW res0 ws w0 w' := by
      refine Keep.tr ha.cw hp.keep (fun b hb => ⟨Nat.lt_of_lt_of_le hb.1 ha.cw.size, fun hB => ?_⟩)
      rcases hlent b hB with ⟨r0, v0, c0, q1, q2, q3⟩ | q1
      · exact hb.2 r0 v0 c0 q1 q2 q3
      · have := hb.1; omega
    refine ⟨hcw, ?_⟩
    rw [hl]
    refine k s nv _ w0 w' (SH.put ⟨ha.s0, h3, hcw, ha.st.tr h5, fun r2 v2 c2 b2 k1 k2 k3 => ?_⟩ hn (he0 s nv _ _ _ _ _ h4) h4) r hm
    rcases lr_aft k2 with ⟨k', q1, q2⟩ | ⟨q1, q2⟩
    · rcases hp.own k' v2 c2 q2 b2 k3 with q3 | q3
      · exact .inr (Nat.le_trans ha.cw.size q3)
      · exact hlent b2 q3
    · exact ha.wsp r2 v2 c2 b2 k1 q2 k3
theorem oRun {e0 e : Ent} (i : Nat) (hi : os.toArray[i]? = some ⟨some d, op, ty, pos, after, g⟩) (hg : Grd os l ⟨some d, op, ty, pos, after, g⟩ true) (hn : Nat.blt d Γ.n = true) (hl : listed.setIfInBounds i true = listed')
    (h0 : ∀ S w S' w' v, e.holds S w v → e0.holds S' w' v) (he : Run Eq P Γ l res ⟨some d, op, ty, pos, after, g⟩ e) (k : GH P os Γ ((d, e0) :: l0) res0 ws ((d, e) :: l) res N fuel listed' m) : GO P os Γ l0 res0 ws l res N fuel listed i m := fun a w0 w ha ρ' hm => by
  obtain ⟨u, h1, h2⟩ := he a w ha.s
  have hgw := hg.wanted ha.s
  unfold wpOp
  simp only [hi, hgw, if_true]
  refine .inl ?_
  unfold Oper.wp; rw [h1 w rfl]
  refine ⟨ha.cw, ?_⟩
  rw [hl]
  exact k _ w0 w (ha.put hn (h0 _ _ _ _ _ h2) h2) ρ' hm
theorem oDoB {r : Nat} {T : TypeId} {es : List Ent} (i : Nat) (hi : os.toArray[i]? = some ⟨some d, op, ty, pos, after, g⟩) (hg : Grd os l ⟨some d, op, ty, pos, after, g⟩ true) (hn : Nat.blt d Γ.n = true) (hl : listed.setIfInBounds i true = listed') (hw : ws.contains r = true)
    (he : Eff P Γ l res ⟨some d, op, ty, pos, after, g⟩ r (fun v => (v, .box T es))) (k : ∀ u, GH P os Γ ((d, .val (ptrTo u 0)) :: l0) res0 ws ((d, .val (ptrTo u 0)) :: l) ((r, some (u, .box T es)) :: res) N fuel listed' m) : GO P os Γ l0 res0 ws l res N fuel listed i m :=
  oDo i hi hg hn hl hw he (fun _ => rfl) (fun u a w0 w ha ρ' hm => by
    have hb := base_ptr (ha.s.conts r _ _ (lr_cons.trans (if_pos rfl)))
    have := k u a w0 w
    rw [hb] at this
    exact this ha ρ' hm)
theorem oCallJ {σ : Type} {f : FuncId} {F : Func} {b : Code} {args : List Operand} {ats : Array TypeId} {pin : List Ent} {rin : Res} {m1 : Option σ} {q : σ → (Nat → Value) → Post} {kk : σ → Option ρ} (i : Nat) (ns : List Nat) (mp : List (Nat × Nat))
    (hi : os.toArray[i]? = some ⟨some d, .call ⟨.value (.func f), args.toArray, ats⟩, ty, pos, after, g⟩) (hl : listed.setIfInBounds i true = listed') (hg : Grd os l ⟨some d, .call ⟨.value (.func f), args.toArray, ats⟩, ty, pos, after, g⟩ true) (hn : Nat.blt d Γ.n = true)
    (hF : P.funcs[f]? = some F) (hB : F.body = some b) (hnm : (F.name == "runtime.NumGoroutine") = false) (hS : Spec P f pin rin m1 q) (hA : ArgsQ l args pin) (hr : SubR res rin ns) (hw : ns.all (fun n => ws.contains n) = true)
    (k : ∀ s nv, GH P os Γ ((d, .junk) :: l0) res0 ws ((d, retE (q s nv).ret) :: l) (aft ns mp (q s nv).res res) N fuel listed' (kk s)) :
    GO P os Γ l0 res0 ws l res N fuel listed i (m1 >>= kk) := oCall i ns mp (fun _ _ => .junk) hi hl hg hn hF hB hnm hS hA hr hw (fun _ _ _ _ _ _ _ _ => trivial) k
theorem oCallF {σ : Type} {f : FuncId} {F : Func} {b : Code} {args : List Operand} {ats : Array TypeId} {pin : List Ent} {rin : Res} {m1 : Option σ} {q : σ → (Nat → Value) → Post} {kk : σ → Option ρ} (i : Nat) (ns : List Nat) (mp : List (Nat × Nat))
    (hi : os.toArray[i]? = some ⟨some d, .call ⟨.value (.func f), args.toArray, ats⟩, ty, pos, after, g⟩) (hl : listed.setIfInBounds i true = listed') (hg : Grd os l ⟨some d, .call ⟨.value (.func f), args.toArray, ats⟩, ty, pos, after, g⟩ true) (hn : Nat.blt d Γ.n = true)
    (hF : P.funcs[f]? = some F) (hB : F.body = some b) (hnm : (F.name == "runtime.NumGoroutine") = false) (hS : Spec P f pin rin m1 q) (hA : ArgsQ l args pin) (hr : SubR res rin ns) (hw : ns.all (fun n => ws.contains n) = true)
    (hfl : ∀ s nv, (retE (q s nv).ret).flat) (k : ∀ s nv, GH P os Γ ((d, retE (q s nv).ret) :: l0) res0 ws ((d, retE (q s nv).ret) :: l) (aft ns mp (q s nv).res res) N fuel listed' (kk s)) :
    GO P os Γ l0 res0 ws l res N fuel listed i (m1 >>= kk) := oCall i ns mp (fun s nv => retE (q s nv).ret) hi hl hg hn hF hB hnm hS hA hr hw (fun s nv v S w S' w' h => hfl s nv S w S' w' v h) k
theorem oFrz {i : Nat} {α : Type} {R : Rep α} {T : TypeId} {b : List α} {v : Value} (r : Nat) (ts : List Nat) (hr : lr res r = some (v, .list R T b)) (ht : FrL l v ts) (k : GO P os Γ (ts.map (fun t => (t, .junk)) ++ l0) res0 ws (ts.map (fun t => (t, .rd (sliceR R) b)) ++ l) ((r, none) :: res) N fuel listed i m) : GO P os Γ l0 res0 ws l res N fuel listed i m := fun a w0 w ha r' hr' => by
  refine k a w0 w ⟨?_, ha.s.frz r ts hr ht, ha.cw, fun bb hb => ⟨?_, (ha.st bb hb).2⟩, fun r2 v2 c2 b2 h1 h2 => ?_⟩ r' hr'
  · refine { ha.s0 with slots := fun t' e' ht' => ?_ }
    rw [lk_put] at ht'
    split at ht'
    · rename_i hh; cases ht'
      obtain ⟨u, h1, _⟩ := ha.s.slots t' _ (ht.get hh)
      exact ⟨u, h1, trivial⟩
    · exact ha.s0.slots t' e' ht'
  · have h1 := (ha.st bb hb).1
    refine ⟨h1.1, fun r2 v2 c2 h2 => ?_, h1.2.2⟩
    rw [lr_cons] at h2
    split at h2
    · cases h2
    · exact h1.2.1 r2 v2 c2 h2
  · rw [lr_cons] at h2
    split at h2
    · cases h2
    · exact ha.wsp r2 v2 c2 b2 h1 h2
end
end Go.Proofs.Ytklfgpdfongaeaa
namespace Go.Proofs.Ytklfgpdfongaeaa
open Go Go.RowKit
set_option linter.unusedSimpArgs false
set_option linter.unusedVariables false
section
variable {P : Program} {w : World}
theorem run_loadBytesK : ∀ (l : List UInt8) (b o : Nat) (acc : ByteArray), (∀ j u, (l.map fun c => Value.int .u8 (c.toNat : Int))[j]? = some u → w.cell? ⟨b, o + j, none⟩ = some u) →
    ∃ s, (Extern.Bytes.loadBytes ⟨b, o, none⟩ l.length acc).run P w = .ok s w ∧ s.data.toList = acc.data.toList ++ l
  | [], b, o, acc, h => ⟨acc, rfl, by simp⟩
  | x :: l, b, o, acc, h => by
    have h0 : w.cell? ⟨b, o, none⟩ = some (.int .u8 (x.toNat : Int)) := h 0 _ rfl
    obtain ⟨s, h1, h2⟩ := run_loadBytesK l b (o + 1) (acc.push x) (fun j u hu => by rw [Nat.add_assoc, Nat.add_comm 1 j]; exact h (j + 1) u hu)
    refine ⟨s, ?_, by rw [h2]; simp⟩
    have hx : ((x.toNat : Nat) : Int).toNat.toUInt8 = x := by simp
    rw [show (x :: l).length = l.length + 1 from rfl]
    unfold Extern.Bytes.loadBytes
    simp [h0, add_none]
    simpa using h1
theorem run_bytesOfK {p : Option Addr} {c : Nat} {l : List UInt8} {xs : List Value} (h : Rd w (.slice p l.length c) l.length 1 xs) (hx : xs = l.map fun c => Value.int .u8 (c.toNat : Int)) : ∃ s, (Extern.Bytes.bytesOf (.slice p l.length c)).run P w = .ok s w ∧ s.data.toList = l := by
  rcases h.2 with ⟨hv, h0⟩ | ⟨b, o, sp, cap, hv, h1, h2, hsp, h3⟩
  · simp only [Value.slice.injEq] at hv
    obtain ⟨rfl, hl, -⟩ := hv
    have : l = [] := List.length_eq_zero_iff.1 hl
    subst this
    exact ⟨.empty, rfl, rfl⟩
  · simp only [Value.slice.injEq, true_and] at hv
    obtain ⟨rfl, -⟩ := hv
    rcases hsp with he | rfl
    · have : l = [] := by rw [hx] at he; simpa using he
      subst this; exact ⟨.empty, rfl, rfl⟩
    · obtain ⟨s, h4, h5⟩ := run_loadBytesK l b o .empty (by rw [← hx]; exact h3)
      exact ⟨s, h4, by rw [h5]; rfl⟩
theorem run_compareK {p q : Option Addr} {c d : Nat} {x y : List UInt8} {xs ys : List Value} (hx : Rd w (.slice p x.length c) x.length 1 xs) (hx' : xs = x.map fun c => Value.int .u8 (c.toNat : Int)) (hy : Rd w (.slice q y.length d) y.length 1 ys) (hy' : ys = y.map fun c => Value.int .u8 (c.toNat : Int)) :
    (Extern.BytealgCompare.compare #[.slice p x.length c, .slice q y.length d]).run P w = .ok (.int .i64 (Lib.compareBytes x y)) w := by
  obtain ⟨s, h1, h2⟩ := run_bytesOfK (P := P) hx hx'
  obtain ⟨t, h3, h4⟩ := run_bytesOfK (P := P) hy hy'
  change Sem.run P (do pure (goInt (Extern.BytealgCompare.cmp (← Extern.Bytes.bytesOf (.slice p x.length c)) (← Extern.Bytes.bytesOf (.slice q y.length d))))) w = _
  simp only [Sem.run_bind, h1, h3, Sem.run_pure, Result.andThen]
  rw [Lib.cmp_eq, h2, h4]
  rfl
end
section
variable {ρ : Type} {C : World → World → Prop} {P : Program} {Γ : Ctx} {l : Slots} {res : Res} {m : Option ρ} {os rest : List Oper} {N : ρ → Exit → Act → World → Prop} {d : Tmp} {ty : TypeId} {pos : String} {after : Array Edge} {g : Option (Nat × Bool)}
theorem run_extK {a : Act} {w w' : World} {fn : FuncId} {args : Array Operand} {vs : Array Value} {ats : Array TypeId} {F : Func} {e : Array Value → Sem Value} {v : Value}
    (hF : P.funcs[fn]? = some F) (hnm : (F.name == "runtime.NumGoroutine") = false) (hB : F.body.isNone = true) (hn : Extern.findNext F = none) (he : Extern.find F = some e)
    (hvs : args.map a.eval = vs) (hr : (e vs).run P w = .ok v w') : (execOp a.eval ⟨some d, .call ⟨.value (.func fn), args, ats⟩, ty, pos, after, g⟩).run P w = .ok (.value v) w' := by
  have e0 : a.eval (.func fn) = .func (.func fn) #[] #[] := rfl
  simp [execOp, resolve, e0, Deferred.ofValue, invoke, hvs, run_callFunc_extern hF hnm hB hn he, hr]
theorem cmpB {ws : List Nat} [LC C res ws] {fn : FuncId} {x y : Operand} {ats : Array TypeId} {F : Func} {b c : List UInt8} (hx : opE l x = some (.rd (sliceR u8R) b)) (hy : opE l y = some (.rd (sliceR u8R) c)) (hF : P.funcs[fn]? = some F) (hnm : (F.name == "runtime.NumGoroutine") = false) (hB : F.body.isNone = true) (hn : Extern.findNext F = none) (he : Extern.find F = some Extern.BytealgCompare.compare) :
    Run C P Γ l res ⟨some d, .call ⟨.value (.func fn), #[x, y], ats⟩, ty, pos, after, g⟩ (.rd i64R (Lib.compareBytes b c)) := fun a w ha => by
  obtain ⟨cs, ⟨p, cp, xs, k1, k2, k3, k4⟩, k5⟩ := ha.vl hx
  subst k1
  have k5 : a.eval x = .slice p b.length cp := k5
  obtain ⟨ds, ⟨q, cq, ys, j1, j2, j3, j4⟩, j5⟩ := ha.vl hy
  subst j1
  have j5 : a.eval y = .slice q c.length cq := j5
  refine ⟨_, fun w' hw' => ?_, rd_num'⟩
  have stay : Stay (Shr Γ.H res w) (Shr Γ.H res w') w w' := CW.stay hw'
  exact run_extK hF hnm hB hn he (by simp [k5, j5]) (run_compareK (k2.stay k4 stay) (relL_u8 k3) (j2.stay j4 stay) (relL_u8 j3))
end
end Go.Proofs.Ytklfgpdfongaeaa
namespace Go.Proofs.Ytklfgpdfongaeaa
open Go Go.RowKit
set_option linter.unusedSimpArgs false
set_option linter.unusedVariables false
def arrTo (v : Value) (k n : Nat) : Value := match rblk v with
  | some b => .slice (some ⟨b, k, none⟩) n n
  | none => v
theorem arrTo_base {v : Value} {b k n : Nat} (h : base v = some b) : arrTo v k n = .slice (some ⟨b, k, none⟩) n n := by unfold arrTo; rw [base_rblk h]
def vcopy {α : Type} {n : Nat} (x : Vector α n) (s : List α) : Vector α n := ⟨(s.take (min s.length n) ++ x.toList.drop (min s.length n)).toArray, by simp; omega⟩
theorem vcopy_list {α : Type} {n : Nat} (x : Vector α n) (s : List α) : (vcopy x s).toList = s.take (min s.length n) ++ x.toList.drop (min s.length n) := by
  unfold vcopy; rfl
section
variable {α : Type} {ρ : Type} {C : World → World → Prop} {P : Program} {Γ : Ctx} {l : Slots} {res : Res} {m : Option ρ} {os rest : List Oper} {N : ρ → Exit → Act → World → Prop} {d : Tmp} {ty : TypeId} {pos : String} {after : Array Edge} {g : Option (Nat × Bool)}
theorem cutW {R : Rep α} {n k : Nat} {v : Value} {c : Cont} {x' : Vector α n} {upd : Vector α n → Cont} {x : Operand} {T e : TypeId} {z : Value} {by_ : Nat} (r : Nat) (hx : opE l x = some (.val (ptrTo v k))) (hr : lr res r = some (v, c)) (hf : Foc c k (arrR n R) x' upd) (hT : P.underlying T = some (.array n e)) (hE : TI P e z R.sz by_) (hn : Nat.blt 0 n = true) :
    Run C P Γ l res ⟨some d, .slice T x none none none, ty, pos, after, g⟩ (.val (arrTo v k n)) := fun a w ha => by
  have hn : 0 < n := Eq.mp Nat.blt_eq hn
  have h1 := (ha.vl hx).1
  rcases ha.conts r v c hr with h2 | ⟨b, o, h2, h3, h4⟩
  · exact (hf.1 _ _ v h2).elim
  · obtain ⟨b', CC, T', a', cs, dd, k1, rfl, k3, rfl, k5, k6⟩ := hf.2 _ w v o h4
    rw [ptrTo_base k1] at h1
    refine ⟨_, fun w' _ => ?_, rfl, by rw [arrTo_base k1]; rfl⟩
    rw [arrTo_base k1]
    have hne : ¬ n = 0 := by omega
    simp [execOp, h1, Instr.sliceAt, run_underlying hT, Instr.sliceBounds, Instr.sureAddr, run_sizeOf hE, Sem.run_pure, Addr.add]
theorem lCpy {R : Rep α} {n k : Nat} {v : Value} {c : Cont} {x' : Vector α n} {upd : Vector α n → Cont} {x y : Operand} {T e : TypeId} {at_ : Array TypeId} {z : Value} {by_ : Nat} {s : List α} (r : Nat) (hn : Nat.blt d Γ.n = true) (hx : opE l x = some (.val (arrTo v k n))) (hr : lr res r = some (v, c)) (hf : Foc c k (arrR n R) x' upd) {E : Ent} (hy : opE l y = some E) (hv : Vw R res E s) (hat : at_[0]? = some T) (hT : P.underlying T = some (.slice e)) (hE : TI P e z R.sz by_)
    (kk : GL P os (Sta Γ ((d, .rd i64R (min s.length n : Nat)) :: l) ((r, some (v, upd (vcopy x' s))) :: res)) rest N m) : GL P os (Sta Γ l res) (⟨some d, .call ⟨.builtin .copy, #[x, y], at_⟩, ty, pos, after, none⟩ :: rest) N m := fun a w ha ρ hm => by
  have h1 := (ha.vl hx).1
  obtain ⟨p, cp, xs, j5, j2, j3⟩ := hv.get ha (ha.vl hy)
  rcases ha.conts r v c hr with h2 | ⟨b, o, h2, h3, h4⟩
  · exact (hf.1 _ _ v h2).elim
  · obtain ⟨b', CC, T', a', cs, dd, k1, rfl, k3, rfl, k5, k6⟩ := hf.2 _ w v o h4
    rw [arrTo_base k1] at h1
    obtain rfl := rblk_base h2 k1
    have k5 : relL R (Shr Γ.H res w) w cs x'.toList := k5
    have hlen : cs.length = n * R.sz := by rw [k5.len]; simp
    have hxl : xs.length = s.length * R.sz := j3.len
    have hmn : min s.length n ≤ n := Nat.min_le_right _ _
    have hms : min s.length n ≤ s.length := Nat.min_le_left _ _
    generalize hmm : min s.length n = mm at hmn hms kk
    have h5 : mm * R.sz ≤ n * R.sz := Nat.mul_le_mul_right _ hmn
    have h6 : mm * R.sz ≤ s.length * R.sz := Nat.mul_le_mul_right _ hms
    have hvl : (xs.take (mm * R.sz)).length = mm * R.sz := by simp; omega
    have hfirst : (Builtin.firstCells R.sz mm (.slice p s.length cp)).run P w = .ok (xs.take (mm * R.sz)).toArray w := by
      rcases j2.2 with ⟨hv, h0⟩ | ⟨b2, o2, sp, cap, hv, g1, g2, g4, g3⟩
      · simp only [Value.slice.injEq] at hv
        obtain ⟨rfl, _, rfl⟩ := hv
        have hx0 : xs = [] := List.eq_nil_of_length_eq_zero (by rw [hxl, h0]; simp)
        rw [hx0, run_firstCells_none]; simp
      · simp only [Value.slice.injEq, true_and] at hv
        obtain ⟨rfl, rfl⟩ := hv
        refine run_firstCells_some w R.sz mm _ _ _ _ hvl fun i u hu => ?_
        rw [List.getElem?_take] at hu
        split at hu
        · have hne : xs ≠ [] := fun e0 => by rw [e0] at hu; simp at hu
          obtain rfl := g4.resolve_left hne
          rw [add_none]; exact g3 i u hu
        · cases hu
    have hcc : CC.toList.length = CC.size := by simp
    rw [k3] at hcc
    simp only [List.length_append] at hcc
    have hst := run_storeCells_at (P := P) b' a'.length T' (xs.take (mm * R.sz)) 0 CC w h3 (by omega) (fun u hu => j3.one u (List.mem_of_mem_take hu))
    have hsp : (CC.toList.take (a'.length + 0) ++ xs.take (mm * R.sz) ++ CC.toList.drop (a'.length + 0 + (xs.take (mm * R.sz)).length)).toArray = (a' ++ (xs.take (mm * R.sz) ++ cs.drop (mm * R.sz)) ++ dd).toArray := by
      rw [k3, hvl]
      congr 1
      have e1 : (a' ++ cs ++ dd).take (a'.length + 0) = a' := by simp
      have e2 : (a' ++ cs ++ dd).drop (a'.length + 0 + mm * R.sz) = cs.drop (mm * R.sz) ++ dd := by
        rw [List.append_assoc, Nat.add_zero, List.drop_append, List.drop_eq_nil_of_le (by omega), Nat.add_sub_cancel_left, List.drop_append, List.nil_append]
        rw [show mm * R.sz - cs.length = 0 by omega, List.drop_zero]
      rw [e1, e2]; simp
    rw [hsp] at hst
    have hrun : (execOp a.eval ⟨some d, .call ⟨.builtin .copy, #[x, y], at_⟩, ty, pos, after, none⟩).run P w = .ok (.value (.int .i64 (mm : Int))) (w.setRow b' (a' ++ (xs.take (mm * R.sz) ++ cs.drop (mm * R.sz)) ++ dd).toArray) := by
      have hm2 : Nat.min s.length n = mm := hmm
      simp [execOp, resolve, invoke, builtin, h1, j5, Builtin.copy_, hat, run_underlying hT, Builtin.lenOf, hm2, run_sizeOf hE, hfirst]
      have hst' := hst
      simp only [List.append_assoc] at hst'
      simp [hst', goInt]
    have hrel : relL R (Shr Γ.H res w) w (xs.take (mm * R.sz) ++ cs.drop (mm * R.sz)) (vcopy x' s).toList := by
      rw [vcopy_list, hmm]
      exact (j3.take mm).append (k5.drop mm)
    obtain ⟨h7, -⟩ := ha.upd r (v := v) (c := upd (vcopy x' s)) (setRow_gr b' _) (fun b hb => ⟨v, c, hr, by cases hb; exact h2⟩) (fun b hb => .inl ⟨v, c, hr, hb⟩) (fun S' k' => .inr ⟨b', _, h2, setRow_heap w b' CC _ T' _ h3, k6 S' _ _ _ k' (hrel.mono k')⟩)
    exact st (g_none rfl) hrun (kk _ _ (h7.put hn rd_num') ρ hm)
theorem bldG {R : Rep α} {n : Nat} {x0 x' : Vector α n} {T e : TypeId} {z ze : Value} {sz by_ by2 : Nat} {parts : Array (Nat × Operand)} (hT : P.underlying T = some (.array n e)) (hI : TI P T z sz by_) (hz : Zr (arrR n R) z.cells.toList x0) (hE : TI P e ze R.sz by2)
    (h : Bld l (fun i : Nat => some (i * R.sz, R.sz)) (arrR n R) parts.toList x0 x') : Run C P Γ l res ⟨some d, .build T parts, ty, pos, after, g⟩ (.rd (arrR n R) x') := fun a w ha => by
  obtain ⟨C', h1, h2⟩ := h.get ha (hz _ w)
  refine ⟨.agg C', fun w' _ => q0_build rfl ?_, C'.toList, h2, by simp [Rep.val, arrR]⟩
  have e2 : (parts.map fun (i, x) => (i, a.eval x)).toList = parts.toList.map fun p => (p.1, a.eval p.2) := by simp
  unfold Instr.build
  simp only [Sem.run_bind, run_zero hI, Result.andThen, run_underlying hT, run_sizeOf hE, e2, h1]
  rfl
theorem vidx_ok {n : Nat} {v : Vector α n} {k : Nat} (h : k < n) : vidx v (k : Int) = some v[k] := by unfold vidx idx; simp [h]
end
end Go.Proofs.Ytklfgpdfongaeaa
namespace Go.Proofs.Ytklfgpdfongaeaa
open Go Go.RowKit
variable {ro : Option Nat}
set_option linter.unusedSimpArgs false
set_option linter.unusedVariables false
def Sp {α : Type} (R : Rep α) (x : α) (es : List Ent) : Prop := R.agg = true ∧ ∀ S w cs, R.rel S w cs x ↔ ∃ vs, holdsL S w es vs ∧ catC vs = cs
theorem Sp.unit : Sp unitR () [] := ⟨rfl, fun S w cs => ⟨fun h => ⟨[], trivial, (show cs = [] from h).symm⟩, fun ⟨vs, h1, h2⟩ => by
  match vs, h1 with
  | [], _ => exact h2.symm⟩⟩
theorem Sp.prod {α β : Type} {R : Rep α} {T : Rep β} {x : α} {y : β} {es : List Ent} (h : Sp T y es) : Sp (prodR R T) (x, y) (.rd R x :: es) := ⟨rfl, fun S w cs => ⟨fun ⟨c, d, h1, h2, h3⟩ => by
    obtain ⟨vs, k1, k2⟩ := (h.2 S w d).1 h3
    exact ⟨R.val c :: vs, ⟨⟨c, h2, rfl⟩, k1⟩, by rw [catC_cons, Rep.val_cells h2, k2, h1]⟩, fun ⟨vs, h1, h2⟩ => by
    match vs, h1 with
    | v :: vs, ⟨⟨c, k1, k2⟩, k3⟩ =>
      subst k2
      rw [catC_cons, Rep.val_cells k1] at h2
      exact ⟨c, _, h2.symm, k1, (h.2 S w _).2 ⟨vs, k3, rfl⟩⟩⟩⟩
theorem Sp.via {α β : Type} {g : β → α} {R : Rep α} {x : β} {es : List Ent} (h : Sp R (g x) es) : Sp (viaR g R) x es := ⟨h.1, h.2⟩
section
variable {ρ : Type} {P : Program} {Γ : Ctx} {l : Slots} {res : Res} {m : Option ρ} {a : Act} {w : World}
theorem Sta.recont (ha : Sta Γ l res a w) (r : Nat) {v : Value} {c c' : Cont} (hr : lr res r = some (v, c)) (h : c.holds (Shr Γ.H res w) w v → c'.holds (Shr Γ.H res w) w v) : Sta Γ l ((r, some (v, c')) :: res) a w :=
  (ha.upd r (v := v) (c := c') (wr := none) Ext.rfl'.gb (by simp) (fun b hb => .inl ⟨v, c, hr, hb⟩) (fun S' k' => (h (ha.conts r v c hr)).mono k' (fun b hb => rfl))).1
theorem Sta.split {α : Type} {R : Rep α} {x : α} {es : List Ent} {T : TypeId} {v : Value} (ha : Sta Γ l res a w) (r : Nat) (hr : lr res r = some (v, .box T [.rd R x])) (hs : Sp R x es) : Sta Γ l ((r, some (v, .box T es)) :: res) a w :=
  ha.recont r hr (fun h => by
    rcases h with h | ⟨b, o, h1, h2, b', vs, rfl, rfl, h3⟩
    · exact h.elim
    · match vs, h3 with
      | [u], ⟨⟨cs, k1, k2⟩, _⟩ =>
        subst k2
        obtain ⟨vs', k3, k4⟩ := (hs.2 _ w cs).1 k1
        exact .inr ⟨b, _, h1, h2, b', vs', rfl, by rw [k4]; simp [catC, Rep.val_cells k1], k3⟩)
theorem Sta.join {α : Type} {R : Rep α} {x : α} {es : List Ent} {T : TypeId} {v : Value} (ha : Sta Γ l res a w) (r : Nat) (hr : lr res r = some (v, .box T es)) (hs : Sp R x es) : Sta Γ l ((r, some (v, .box T [.rd R x])) :: res) a w :=
  ha.recont r hr (fun h => by
    rcases h with h | ⟨b, o, h1, h2, b', vs, rfl, rfl, h3⟩
    · exact h.elim
    · have k1 := (hs.2 _ w (catC vs)).2 ⟨vs, h3, rfl⟩
      exact .inr ⟨b, _, h1, h2, b', [R.val (catC vs)], rfl, by rw [show catC [R.val (catC vs)] = catC vs by rw [catC_cons, Rep.val_cells k1]; simp [catC]], ⟨_, k1, rfl⟩, trivial⟩)
theorem val_nil_rd {α : Type} (R : Rep α) {S : Blk} {w : World} {v : Value} (h : (Ent.val (.slice none 0 0)).holds S w v) : (Ent.rd (sliceR R) []).holds S w v := by
  obtain ⟨rfl, -⟩ := h
  exact ⟨_, ⟨none, 0, [], rfl, Rd.nil _ _, rfl, by simp⟩, rfl⟩
theorem Swap.holds {es es' : List Ent} {S : Blk} {w : World} {e e0 : Ent} {pre post : List Ent} (h1 : es = pre ++ e0 :: post) (h2 : es' = pre ++ e :: post) (he : ∀ v, e0.holds S w v → e.holds S w v) : ∀ {vs : List Value}, holdsL S w es vs → holdsL S w es' vs := by
  subst h1; subst h2
  induction pre with
  | nil => intro vs h; match vs, h with | v :: vs, ⟨k1, k2⟩ => exact ⟨he v k1, k2⟩
  | cons p pre ih => intro vs h; match vs, h with | v :: vs, ⟨k1, k2⟩ => exact ⟨k1, ih k2⟩
theorem Sta.partNil {α : Type} (R : Rep α) {es es' : List Ent} {T : TypeId} {v : Value} (ha : Sta Γ l res a w) (r : Nat) (pre post : List Ent) (hr : lr res r = some (v, .box T es)) (h1 : es = pre ++ .val (.slice none 0 0) :: post) (h2 : es' = pre ++ .rd (sliceR R) [] :: post) : Sta Γ l ((r, some (v, .box T es')) :: res) a w :=
  ha.recont r hr (fun h => by
    rcases h with h | ⟨b, o, k1, k2, b', vs, rfl, rfl, k3⟩
    · exact h.elim
    · exact .inr ⟨b, _, k1, k2, b', vs, rfl, rfl, Swap.holds h1 h2 (fun v hv => val_nil_rd R hv) k3⟩)
theorem Sta.partOwn {α : Type} {R : Rep α} {b : List α} {es es' : List Ent} {T E : TypeId} {v u : Value} (ha : Sta Γ l res a w) (r q : Nat) (pre post : List Ent) (hne : r ≠ q) (hr : lr res r = some (v, .box T es)) (hq : lr res q = some (u, .list R E b)) (h1 : es = pre ++ .val u :: post) (h2 : es' = pre ++ .rd (sliceR R) b :: post) : Sta Γ l ((r, some (v, .box T es')) :: (q, none) :: res) a w := by
  have hbox := ha.conts r v _ hr
  have hlist := ha.conts q u _ hq
  have hst : Stay (Shr Γ.H res w) (Shr Γ.H ((q, none) :: res) w) w w := fun bb hb => ⟨⟨hb.1, fun r' v' c' hr' => by
    rw [lr_cons] at hr'
    split at hr'
    · cases hr'
    · exact hb.2.1 r' v' c' hr', hb.2.2⟩, rfl⟩
  have ha' : Sta Γ l ((q, none) :: res) a w := by simpa using ha.frz (R := R) (T := E) (b := b) q [] hq trivial
  have hr' : lr ((q, none) :: res) r = some (v, .box T es) := (lr_cons.trans (if_neg (fun e => hne e.symm))).trans hr
  refine ha'.recont r hr' (fun _ => ?_)
  rcases hbox with h | ⟨b0, o, k1, k2, b', vs, rfl, rfl, k3⟩
  · exact h.elim
  · refine .inr ⟨b0, _, k1, k2, b', vs, rfl, rfl, Swap.holds h1 h2 (fun v' hv => ?_) (k3.mono hst)⟩
    obtain ⟨rfl, -⟩ := hv
    obtain ⟨xs, h3, h4⟩ := list_owns hlist
    obtain ⟨p, c, rfl⟩ := slice_form h3
    refine ⟨_, ⟨p, c, xs, rfl, Rd.of_own h3, h4.mono hst, fun hne' bb hbb => ?_⟩, rfl⟩
    have hbb : rblk (.slice p b.length c) = some bb := by rw [rblk_own, sblk_own]; exact hbb
    refine ⟨(ha.conts q _ _ hq).lt hbb, fun r' v' c' hr2 e => ?_, fun hH => ha.own q _ _ hq bb hbb (ha.hid bb hH)⟩
    rw [lr_cons] at hr2
    split at hr2
    · cases hr2
    · rename_i hqr
      exact ha.excl q _ _ r' v' c' hq hr2 hqr bb hbb e
variable {os rest : List Oper} {N Q : ρ → Exit → Act → World → Prop} {c : Code} {e : Exit}
theorem lJoi {α : Type} {R : Rep α} (x : α) {es : List Ent} {T : TypeId} {v : Value} (r : Nat) (hr : lr res r = some (v, .box T es)) (hs : Sp R x es) (k : GL P os (Sta Γ l ((r, some (v, .box T [.rd R x])) :: res)) rest N m) : GL P os (Sta Γ l res) rest N m := fun a w ha => k a w (ha.join r hr hs)
theorem lPnl {α : Type} (R : Rep α) {es : List Ent} (es' : List Ent) {T : TypeId} {v : Value} (r : Nat) (pre post : List Ent) (hr : lr res r = some (v, .box T es)) (h1 : es = pre ++ .val (.slice none 0 0) :: post) (h2 : es' = pre ++ .rd (sliceR R) [] :: post) (k : GL P os (Sta Γ l ((r, some (v, .box T es')) :: res)) rest N m) : GL P os (Sta Γ l res) rest N m := fun a w ha => k a w (ha.partNil R r pre post hr h1 h2)
theorem lPow {α : Type} {R : Rep α} {b : List α} {es : List Ent} (es' : List Ent) {T E : TypeId} {v u : Value} (r q : Nat) (pre post : List Ent) (hne : (r == q) = false) (hr : lr res r = some (v, .box T es)) (hq : lr res q = some (u, .list R E b)) (h1 : es = pre ++ .val u :: post) (h2 : es' = pre ++ .rd (sliceR R) b :: post) (k : GL P os (Sta Γ l ((r, some (v, .box T es')) :: (q, none) :: res)) rest N m) : GL P os (Sta Γ l res) rest N m := fun a w ha => k a w (ha.partOwn r q pre post (by simpa using hne) hr hq h1 h2)
theorem eJoi {α : Type} {R : Rep α} (x : α) {es : List Ent} {T : TypeId} {v : Value} (r : Nat) (hr : lr res r = some (v, .box T es)) (hs : Sp R x es) (k : GE (Sta Γ l ((r, some (v, .box T [.rd R x])) :: res)) e Q m) : GE (Sta Γ l res) e Q m := fun a w ha => k a w (ha.join r hr hs)
theorem ePnl {α : Type} (R : Rep α) {es : List Ent} (es' : List Ent) {T : TypeId} {v : Value} (r : Nat) (pre post : List Ent) (hr : lr res r = some (v, .box T es)) (h1 : es = pre ++ .val (.slice none 0 0) :: post) (h2 : es' = pre ++ .rd (sliceR R) [] :: post) (k : GE (Sta Γ l ((r, some (v, .box T es')) :: res)) e Q m) : GE (Sta Γ l res) e Q m := fun a w ha => k a w (ha.partNil R r pre post hr h1 h2)
end
def BldE (l : Slots) (place : Nat → Option (Nat × Nat)) : List (Nat × Operand) → List Ent → List Ent → Prop
  | [], es, es' => es = es'
  | (i, o) :: ps, es, es' => ∃ (e : Ent) (off n : Nat) (es1 : List Ent), opE l o = some e ∧ place i = some (off, n) ∧ e.fills n ∧ Swap es off n e es1 ∧ BldE l place ps es1 es'
theorem BldE.done {l : Slots} {place : Nat → Option (Nat × Nat)} {es es' : List Ent} (h : es = es') : BldE l place [] es es' := h
theorem BldE.cons {l : Slots} {place : Nat → Option (Nat × Nat)} {i : Nat} {o : Operand} {ps : List (Nat × Operand)} {e : Ent} {off n : Nat} {es es1 es' : List Ent} (h : opE l o = some e) (hp : place i = some (off, n)) (hf : e.fills n) (hs : Swap es off n e es1) (k : BldE l place ps es1 es') : BldE l place ((i, o) :: ps) es es' := ⟨e, off, n, es1, h, hp, hf, hs, k⟩
theorem Swap.put {es es' : List Ent} {k n : Nat} {e : Ent} {S : Blk} {w : World} (h : Swap es k n e es') {vs : List Value} {v : Value} (hv : e.holds S w v) (hn : v.cells.size = n) (hvs : holdsL S w es vs) : ∃ vs', holdsL S w es' vs' ∧ (catC vs').toArray = spl (catC vs).toArray k v.cells.toList ∧ k + n ≤ (catC vs).length := by
  obtain ⟨pre, post, e0, rfl, rfl, hn0, hk⟩ := h
  obtain ⟨us, ts, rfl, h5, h6⟩ := hvs.app
  match ts, h6 with
  | y0 :: ts, ⟨h7, h8⟩ =>
    have hl := hk _ _ _ h5
    have hy0 : y0.cells.toList.length = n := by have := hn0 _ _ _ h7; simpa using this
    refine ⟨us ++ v :: ts, h5.mk ⟨hv, h8⟩, ?_, by simp only [catC_app, catC_cons, List.length_append]; omega⟩
    subst hl
    unfold spl; congr 1
    have : v.cells.toList.length = n := by simpa using hn
    simp only [catC_app, catC_cons, this]
    rw [show ∀ A B Cc : List Value, A.length + n = (A ++ B).length → List.drop (A.length + n) (A ++ (B ++ Cc)) = Cc by
      intro A B Cc h; rw [h, ← List.append_assoc, List.drop_left']; rfl]
    · simp
    · simp [hy0]
theorem BldE.get {Γ : Ctx} {l : Slots} {res : Res} {a : Act} {w : World} (ha : Sta Γ l res a w) {place : Nat → Option (Nat × Nat)} : ∀ {ps : List (Nat × Operand)} {es es' : List Ent} {vs : List Value}, BldE l place ps es es' → holdsL (Shr Γ.H res w) w es vs →
    ∃ vs', Instr.fill place (catC vs).toArray (ps.map fun p => (p.1, a.eval p.2)) = some (catC vs').toArray ∧ holdsL (Shr Γ.H res w) w es' vs'
  | [], es, es', vs, h, hv => by have h : es = es' := h; subst h; exact ⟨vs, rfl, hv⟩
  | (i, o) :: ps, es, es', vs, h, hv => by
    obtain ⟨e, off, n, es1, h1, h2, h3, h4, h5⟩ := h
    have hy := ha.vl h1
    have hyn : (a.eval o).cells.size = n := h3 _ _ _ hy
    obtain ⟨vs1, k1, k2, k3⟩ := h4.put hy hyn hv
    obtain ⟨vs', q1, q2⟩ := BldE.get ha h5 k1
    refine ⟨vs', ?_, q2⟩
    simp only [List.map_cons]
    rw [fill_step h2 hyn (by simpa using k3), ← k2]; exact q1
def fillsL (es : List Ent) (n : Nat) : Prop := ∀ S w vs, holdsL S w es vs → (catC vs).length = n
theorem fillsL.nil : fillsL [] 0 := fun S w vs h => by match vs, h with | [], _ => rfl
theorem fillsL.cons {e : Ent} {es : List Ent} {n k : Nat} (h : e.fills n) (p : fillsL es k) : fillsL (e :: es) (n + k) := fun S w vs hh => by
  match vs, hh with
  | v :: vs, ⟨h1, h2⟩ => rw [catC_cons, List.length_append, p S w vs h2]; have := h S w v h1; simp [this]
def onesL (es : List Ent) : Prop := ∀ S w vs, holdsL S w es vs → ∀ u ∈ catC vs, u.oneCell' = true
theorem onesL.nil : onesL [] := fun S w vs h u hu => by match vs, h with | [], _ => simp [catC] at hu
theorem onesL.cons {e : Ent} {es : List Ent} (h : e.ones) (p : onesL es) : onesL (e :: es) := fun S w vs hh u hu => by
  match vs, hh with
  | v :: vs, ⟨h1, h2⟩ =>
    rw [catC_cons] at hu
    rcases List.mem_append.1 hu with k | k
    · exact h S w v h1 u k
    · exact p S w vs h2 u k
section
variable {C : World → World → Prop} {P : Program} {Γ : Ctx} {l : Slots} {res : Res} {d : Tmp} {ty : TypeId} {pos : String} {after : Array Edge} {g : Option (Nat × Bool)}
theorem bldE {es0 es' : List Ent} {T : TypeId} {z : Value} {sz by_ : Nat} {parts : Array (Nat × Operand)} {fs : Array Field} (pl : List (Nat × Nat)) (hT : P.underlying T = some (.struct fs)) (hI : TI P T z sz by_) (hz : ZeroIs z es0)
    (hp : fs.toList.map (fun f => (f.offset, (P.info? f.type).map (·.size))) = pl.map (fun p => (p.1, some p.2))) (h : BldE l (fun i : Nat => pl[i]?) parts.toList es0 es') : Run C P Γ l res ⟨some d, .build T parts, ty, pos, after, g⟩ (.agg es') := fun a w ha => by
  obtain ⟨vs, hv1, hv2⟩ := hz (Shr Γ.H res w) w
  obtain ⟨vs', h1, h2⟩ := h.get ha hv2
  rw [hv1, Array.toArray_toList] at h1
  refine ⟨.agg (catC vs').toArray, fun w' _ => q0_build rfl ?_, vs', h2, rfl⟩
  have e1 : (fs.mapM (m := Sem) fun f => do pure (f.offset, ← sizeOf f.type)).run P w' = .ok pl.toArray w' := by
    rw [← Array.toArray_toList (xs := fs), List.mapM_toArray]
    simp only [map_eq_pure_bind, Sem.run_bind, run_places fs.toList pl hp, Result.andThen, Sem.run_pure]
  have e2 : (parts.map fun (i, x) => (i, a.eval x)).toList = parts.toList.map fun p => (p.1, a.eval p.2) := by simp
  unfold Instr.build
  simp only [Sem.run_bind, run_zero hI, Result.andThen, run_underlying hT, e1, e2]
  have e3 : (fun i : Nat => pl.toArray[i]?) = fun i : Nat => pl[i]? := by funext i; simp
  rw [e3, h1]; rfl
theorem stoG {t T : TypeId} {x y : Operand} {v z : Value} {by_ n : Nat} {es es' : List Ent} (r : Nat) (hx : opE l x = some (.val (ptrTo v 0))) (hr : lr res r = some (v, .box T es)) (h0 : fillsL es n)
    (hy : opE l y = some (.agg es')) (h1e : onesL es') (hn : fillsL es' n) (hS : TI P t z n by_) : EffS P Γ l res ⟨none, .store t x y, ty, pos, after, g⟩ r (v, .box T es') := fun a w ha => by
  have h1 := (ha.vl hx).1
  obtain ⟨ys, hy1, hy2⟩ := ha.vl hy
  rcases ha.conts r v _ hr with h2 | ⟨b, o, h2, h3, b', vs, rfl, rfl, h4⟩
  · exact h2.elim
  · simp only [rblk, Option.some.injEq] at h2
    subst h2
    rw [ptrTo_ptr] at h1
    have hB : Bx w b' (catC vs).toArray T := h3
    have hyc : (a.eval y).cells = (catC ys).toArray := by rw [hy2]; rfl
    have hyn : (a.eval y).cells.size = n := by rw [hyc]; simp [hn _ _ _ hy1]
    have hl := h0 _ _ _ h4
    have hrun := run_storeB (P := P) (w := w) (b := b') (o := 0) (v := a.eval y) hS hyn (by rw [hyc]; simpa using h1e _ _ _ hy1) hB (by simp [hl])
    have hsp : spl (catC vs).toArray 0 (a.eval y).cells.toList = (catC ys).toArray := by
      rw [hyc]
      have := hn _ _ _ hy1
      unfold spl; simp [this, hl]
    rw [hsp] at hrun
    refine ⟨w.setRow b' (catC ys).toArray, ?_, ?_, some b', setRow_gr b' _, fun b hb => ⟨_, _, hr, by cases hb; rfl⟩⟩
    · simp [execOp, h1, Instr.storeAt, Instr.sureAddr, hrun]
    · exact ha.upd r (setRow_gr b' _) (fun b hb => ⟨_, _, hr, by cases hb; rfl⟩) (fun b hb => .inl ⟨_, _, hr, hb⟩) (fun S' k' => .inr ⟨b', _, rfl, setRow_heap w b' _ _ T _ hB, b', ys, rfl, rfl, hy1.mono k'⟩)
theorem ZeroIs.nil {z : Value} (h : z.cells.toList = []) : ZeroIs z [] := fun S w => ⟨[], by rw [h]; rfl, trivial⟩
theorem ZeroIs.parts {z : Value} {es : List Ent} (h : ∀ S w, ∃ vs, catC vs = z.cells.toList ∧ holdsL S w es vs) : ZeroIs z es := h
def ZrE (cs : List Value) (es : List Ent) : Prop := ∀ S w, ∃ vs, catC vs = cs ∧ holdsL S w es vs
theorem ZrE.nil : ZrE [] [] := fun S w => ⟨[], rfl, trivial⟩
theorem ZrE.rd {α : Type} {R : Rep α} {x : α} {c d cs : List Value} {es : List Ent} (h : Zr R c x) (k : ZrE d es) (e : c ++ d = cs) : ZrE cs (.rd R x :: es) := fun S w => by
  obtain ⟨vs, h1, h2⟩ := k S w
  exact ⟨R.val c :: vs, by rw [catC_cons, Rep.val_cells (h S w), h1, e], ⟨c, h S w, rfl⟩, h2⟩
theorem ZrE.nilS {d : List Value} {es : List Ent} (k : ZrE d es) : ZrE (.slice none 0 0 :: d) (.val (.slice none 0 0) :: es) := fun S w => by
  obtain ⟨vs, h1, h2⟩ := k S w
  exact ⟨.slice none 0 0 :: vs, by rw [catC_cons, h1]; rfl, ⟨rfl, rfl⟩, h2⟩
theorem Foc.cast {α : Type} {c : Cont} {k k' : Nat} {R : Rep α} {x : α} {upd : α → Cont} (f : Foc c k' R x upd) (h : k' = k) : Foc c k R x upd := h ▸ f
theorem At.cast {es : List Ent} {k k' : Nat} {e : Ent} (f : At es k' e) (h : k' = k) : At es k e := h ▸ f
theorem Swap.cast {es es' : List Ent} {k k' n : Nat} {e : Ent} (f : Swap es k' n e es') (h : k' = k) : Swap es k n e es' := h ▸ f
theorem fillsL.cast {es : List Ent} {n n' : Nat} (f : fillsL es n') (h : n' = n) : fillsL es n := h ▸ f
end
end Go.Proofs.Ytklfgpdfongaeaa
namespace Go.Proofs.Ytklfgpdfongaeaa
open Go Go.RowKit
set_option linter.unusedSimpArgs false
set_option linter.unusedVariables false
section
variable {S : Blk} {w : World} {v : Value} {T : TypeId}
theorem box_join {α : Type} {R : Rep α} {x : α} {es : List Ent} (hs : Sp R x es) (h : (Cont.box T es).holds S w v) : (Cont.box T [.rd R x]).holds S w v := by
  rcases h with h | ⟨b, o, h1, h2, b', vs, rfl, rfl, h3⟩
  · exact h.elim
  · have k1 := (hs.2 _ w (catC vs)).2 ⟨vs, h3, rfl⟩
    exact .inr ⟨b, _, h1, h2, b', [R.val (catC vs)], rfl, by rw [show catC [R.val (catC vs)] = catC vs by rw [catC_cons, Rep.val_cells k1]; simp [catC]], ⟨_, k1, rfl⟩, trivial⟩
theorem box_nil {α : Type} (R : Rep α) {es es' pre post : List Ent} (h1 : es = pre ++ .val (.slice none 0 0) :: post) (h2 : es' = pre ++ .rd (sliceR R) [] :: post) (h : (Cont.box T es).holds S w v) : (Cont.box T es').holds S w v := by
  rcases h with h | ⟨b, o, k1, k2, b', vs, rfl, rfl, k3⟩
  · exact h.elim
  · exact .inr ⟨b, _, k1, k2, b', vs, rfl, rfl, Swap.holds h1 h2 (fun v hv => val_nil_rd R hv) k3⟩
end
section
variable {ρ : Type} {P : Program} {Γ : Ctx} {l l0 : Slots} {res res0 : Res} {ws : List Nat} {m : Option ρ} {os : List Oper} {N : ρ → Exit → Act → World → Prop} {fuel i : Nat} {listed : Array Bool} {a : Act} {w0 w : World}
theorem SH.recont (h : SH Γ l0 res0 ws l res a w0 w) (r : Nat) {v : Value} {c c' : Cont} (hr : lr res r = some (v, c)) (hc : c'.holds (Shr Γ.H res w) w v) : SH Γ l0 res0 ws l ((r, some (v, c')) :: res) a w0 w := by
  have hu := h.s.upd r (v := v) (c := c') (wr := none) Ext.rfl'.gb (by simp) (fun b hb => .inl ⟨v, c, hr, hb⟩) (fun S' k' => hc.mono k' (fun b hb => rfl))
  refine ⟨h.s0, hu.1, h.cw, h.st.tr hu.2, fun r2 v2 c2 b2 h1 h2 h3 => ?_⟩
  rw [lr_cons] at h2
  split at h2
  · rename_i e; subst e; cases h2; exact h.wsp _ v c b2 h1 hr h3
  · exact h.wsp r2 v2 c2 b2 h1 h2 h3
theorem SH.drop {α : Type} {R : Rep α} {E : TypeId} {b : List α} {v : Value} (h : SH Γ l0 res0 ws l res a w0 w) (q : Nat) (hq : lr res q = some (v, .list R E b)) : SH Γ l0 res0 ws l ((q, none) :: res) a w0 w := by
  refine ⟨h.s0, by simpa using h.s.frz (R := R) (T := E) (b := b) q [] hq trivial, h.cw, fun bb hb => ⟨?_, (h.st bb hb).2⟩, fun r2 v2 c2 b2 h1 h2 => ?_⟩
  · have h1 := (h.st bb hb).1
    refine ⟨h1.1, fun r2 v2 c2 h2 => ?_, h1.2.2⟩
    rw [lr_cons] at h2
    split at h2
    · cases h2
    · exact h1.2.1 r2 v2 c2 h2
  · rw [lr_cons] at h2
    split at h2
    · cases h2
    · exact h.wsp r2 v2 c2 b2 h1 h2
theorem SH.partOwn {α : Type} {R : Rep α} {b : List α} {es es' : List Ent} {T E : TypeId} {v u : Value} (h : SH Γ l0 res0 ws l res a w0 w) (r q : Nat) (pre post : List Ent) (hne : r ≠ q) (hr : lr res r = some (v, .box T es)) (hq : lr res q = some (u, .list R E b)) (h1 : es = pre ++ .val u :: post) (h2 : es' = pre ++ .rd (sliceR R) b :: post) : SH Γ l0 res0 ws l ((r, some (v, .box T es')) :: (q, none) :: res) a w0 w := by
  have hd := h.drop q hq
  have hr' : lr ((q, none) :: res) r = some (v, .box T es) := (lr_cons.trans (if_neg (fun e => hne e.symm))).trans hr
  have hc := (h.s.partOwn r q pre post hne hr hq h1 h2).conts r v _ (lr_cons.trans (if_pos rfl))
  refine hd.recont r hr' (hc.mono (fun bb hb => ⟨⟨hb.1, fun r2 v2 c2 k2 => ?_, hb.2.2⟩, rfl⟩) (fun _ _ => rfl))
  by_cases e : r = r2
  · subst e
    rw [hr'] at k2; cases k2
    exact hb.2.1 r v _ (lr_cons.trans (if_pos rfl))
  · exact hb.2.1 r2 v2 c2 ((lr_cons.trans (if_neg e)).trans k2)
theorem aNil {α : Type} {R : Rep α} {l : Slots} {o : Operand} {os : List Operand} {ps : List Ent} (h : opE l o = some (.val (.slice none 0 0))) (k : ArgsQ l os ps) : ArgsQ l (o :: os) (.rd (sliceR R) [] :: ps) := ⟨⟨_, h, fun _ _ _ h => val_nil_rd R h⟩, k⟩
theorem nonil {α : Type} {R : Rep α} {T : TypeId} {l : List α} {i : Int} {x : α} (h : idx l i = some x) : ∀ S w v, ¬ (Cont.list R T l).nil S w v := fun S w v hv => by rw [hv.2] at h; simp [idx] at h
theorem hJoi {α : Type} {R : Rep α} (x : α) {es : List Ent} {T : TypeId} {v : Value} (r : Nat) (hr : lr res r = some (v, .box T es)) (hs : Sp R x es) (k : GH P os Γ l0 res0 ws l ((r, some (v, .box T [.rd R x])) :: res) N fuel listed m) : GH P os Γ l0 res0 ws l res N fuel listed m := fun a w0 w ha => k a w0 w (ha.recont r hr (box_join hs (ha.s.conts r v _ hr)))
theorem hPnl {α : Type} (R : Rep α) {es : List Ent} (es' : List Ent) {T : TypeId} {v : Value} (r : Nat) (pre post : List Ent) (hr : lr res r = some (v, .box T es)) (h1 : es = pre ++ .val (.slice none 0 0) :: post) (h2 : es' = pre ++ .rd (sliceR R) [] :: post) (k : GH P os Γ l0 res0 ws l ((r, some (v, .box T es')) :: res) N fuel listed m) : GH P os Γ l0 res0 ws l res N fuel listed m := fun a w0 w ha => k a w0 w (ha.recont r hr (box_nil R h1 h2 (ha.s.conts r v _ hr)))
end
end Go.Proofs.Ytklfgpdfongaeaa
namespace Go.Proofs.Ytklfgpdfongaeaa
open Go Go.RowKit
variable {ro : Option Nat}
set_option linter.unusedSimpArgs false
set_option linter.unusedVariables false
section
variable {C : World → World → Prop} {P : Program} {Γ : Ctx} {l : Slots} {res : Res} {d : Tmp} {ty : TypeId} {pos : String} {after : Array Edge} {g : Option (Nat × Bool)}
end
theorem gVoid {ρ : Type} {P : Program} {A : Asn} {c : Code} {Q : ρ → Exit → Act → World → Prop} : G ro P A c Q none := fun a w ha r hr => by cases hr
section
variable {ρ : Type} {P : Program} {Γ : Ctx} {l l0 : Slots} {res res0 : Res} {ws : List Nat} {m m1 m2 : Option ρ} {os : List Oper} {N : ρ → Exit → Act → World → Prop}
  {d : Tmp} {op : Op} {ty : TypeId} {pos : String} {after : Array Edge} {g : Option (Nat × Bool)} {fuel i : Nat} {listed listed' : Array Bool} {rest : List Oper}
end
end Go.Proofs.Ytklfgpdfongaeaa
namespace Go.Proofs.Ytklfgpdfongaeaa
open Go Go.RowKit
set_option linter.unusedSimpArgs false
set_option linter.unusedVariables false
def frame_listed (a0 : UInt8) : Option (Bool) :=
  if decide (2 ≤ a0) then
    some (decide (a0 ≤ 4)) >>= fun y2 =>
    some y2
  else
    some false
set_option maxRecDepth 100000 in
theorem frame_listed_ok (a0 : UInt8) : Spec Try.prog 121 [.rd u8R a0] [] (frame_listed a0) (fun r nv => ⟨[.rd boolR r], []⟩) := by
  refine spec 9 Try.func121 rfl rfl rfl fun H w => ?_
  refine gSeq <| gReg <| R rfl (asg rfl) <| gNil <| eThen <| gSeq <| gReg <| R rfl (mv rfl) <| R rfl (B.geq rfl rfl) <| R rfl (mv rfl) <| lSplit 5 rfl (fun h1 => ?_) (fun h1 => ?_)
  · skip
    refine lKn 4 rfl h1 <| lRun (gd rfl rfl rfl rfl) rfl rfl (mv rfl) <| lRun (gd rfl rfl rfl rfl) rfl rfl (B.leq rfl rfl) <| R rfl (pkT rfl rfl) <| R rfl (asg rfl) <| lName 2 rfl fun y2 => gNil <| eThen <| gRet <| eRet [] [] rfl (eE rfl <| eN) (rN)
  · skip
    refine lKn 4 rfl h1 <| lSkip (gd rfl rfl rfl rfl) rfl rfl <| lSkip (gd rfl rfl rfl rfl) rfl rfl <| R rfl (pkF rfl rfl) <| R rfl (asg rfl) <| gNil <| eThen <| gRet <| eRet [] [] rfl (eE rfl <| eN) (rN)
def bytes_Compare (a0 : List UInt8) (a1 : List UInt8) : Option (Int) :=
  some (Lib.compareBytes a0 a1) >>= fun y1 =>
  some y1
set_option maxRecDepth 100000 in
theorem bytes_Compare_ok (a0 : List UInt8) (a1 : List UInt8) : Spec Try.prog 140 [.rd (sliceR u8R) a0, .rd (sliceR u8R) a1] [] (bytes_Compare a0 a1) (fun r nv => ⟨[.rd i64R r], []⟩) := by
  refine spec 8 Try.func140 rfl rfl rfl fun H w => ?_
  refine gSeq <| gReg <| R rfl (asg rfl) <| gNil <| eThen <| gSeq <| gReg <| R rfl (mv rfl) <| R rfl (mv rfl) <| R rfl (cmpB rfl rfl Try.func141 rfl rfl (by kernel_rfl) (by kernel_rfl)) <| R rfl (asg rfl) <| lName 4 rfl fun y1 => gNil <| eThen <| gRet <| eRet [] [] rfl (eE rfl <| eN) (rN)
def digest_Cmp (a0 : Vector UInt8 32) (a1 : Vector UInt8 32) : Option (Int) :=
  bytes_Compare a0.toList a1.toList >>= fun r3 =>
  some r3
set_option maxRecDepth 100000 in
theorem digest_Cmp_ok (a0 : Vector UInt8 32) (a1 : Vector UInt8 32) : Spec Try.prog 136 [.rd (arrR 32 u8R) a0, .rd (arrR 32 u8R) a1] [] (digest_Cmp a0 a1) (fun r nv => ⟨[.rd i64R r], []⟩) := by
  refine spec 8 Try.func136 rfl rfl rfl fun H w => ?_
  refine gSeq <| gReg <| Eb rfl (bx 1 rfl) fun v1 => Eb rfl (bx 2 rfl) fun v2 => R rfl (asg rfl) <| gNil <| eThen <| gSeq <| gFrzB 1 2 rfl rfl <| gFrzB 2 3 rfl rfl <| gRegH [] mixed rfl rfl <| hTake 0 rfl (by kernel_rfl) (by kernel_rfl) (by kernel_rfl) (gd0 rfl) rfl rfl (cutV rfl Try.underlying102 ti5 rfl rfl rfl) <| hTake 1 rfl (by kernel_rfl) (by kernel_rfl) (by kernel_rfl) (gd0 rfl) rfl rfl (cutV rfl Try.underlying102 ti5 rfl rfl rfl) <| hCallF 2 [] [] rfl (by kernel_rfl) rfl (gd0 rfl) rfl Try.func140 rfl rfl (bytes_Compare_ok _ _) (aQ rfl <| aQ rfl <| aN) rN rfl (fun _ _ => flat_num) fun r3 n4 => hTake 3 rfl (by kernel_rfl) (by kernel_rfl) (by kernel_rfl) (gd0 rfl) rfl rfl (asg rfl) <| hDone (by kernel_rfl) <| eThen <| gRet <| eRet [] [] rfl (eE rfl <| eN) (rN)
def frame_rising_L0 (a0 : List (Vector UInt8 32)) (s2 : Int) : Option (Sum (Sum Bool Unit) Int) :=
  if decide (s2 < (a0.length : Int)) then
    idx a0 (w64 (s2 - 1)) >>= fun x4 =>
    idx a0 s2 >>= fun x6 =>
    digest_Cmp x4 x6 >>= fun r8 =>
    if decide (0 ≤ r8) then
      some (.inl (.inl false))
    else
      some (.inr (w64 (s2 + 1)))
  else
    some (.inl (.inr ()))
def frame_rising (a0 : List (Vector UInt8 32)) : Option (Bool) :=
  orRet (iter (frame_rising_L0 a0) 1) fun s1 =>
  some true
set_option maxRecDepth 100000 in
theorem frame_rising_ok (a0 : List (Vector UInt8 32)) : Spec Try.prog 122 [.rd (sliceR (arrR 32 u8R)) a0] [] (frame_rising a0) (fun r nv => ⟨[.rd boolR r], []⟩) := by
  refine spec 21 Try.func122 rfl rfl rfl fun H w => ?_
  refine gSeq <| gReg <| R rfl (asg rfl) <| gNil <| eThen <| gMidR (fun (s1 : Unit) aa ww => Sta (ctx 21 H [] w) [] [] aa ww) ?_ (fun s1 => ?_)
  · skip
    refine gSeq <| gReg <| R rfl (asg rfl) <| gNil <| eThen <| gLoop (fun (s2 : Int) aa ww => Sta (ctx 21 H [] w) [(0, .rd (sliceR (arrR 32 u8R)) a0), (3, .rd i64R s2)] [] aa ww) (fun aa ww h => h.sub [] (sS rfl <| sS rfl <| sN) (rN)) (fun s2 => ?_)
    refine gSeq <| gSeq <| gReg <| R rfl (mv rfl) <| R rfl (mv rfl) <| R rfl (len' rfl .rd rfl Try.underlying83) <| R rfl (I.lss rfl rfl) <| gNil <| eThen <| gIf rfl rfl (fun h3 => ?_) (fun h3 => ?_)
    · skip
      refine gSkip <| eThen <| gSeq <| gBlk <| gSeq <| gRegH [] mixed rfl rfl <| hTake 0 rfl (by kernel_rfl) (by kernel_rfl) (by kernel_rfl) (gd0 rfl) rfl rfl (mv rfl) <| hTake 1 rfl (by kernel_rfl) (by kernel_rfl) (by kernel_rfl) (gd0 rfl) rfl rfl (mv rfl) <| hTake 2 rfl (by kernel_rfl) (by kernel_rfl) (by kernel_rfl) (gd0 rfl) rfl rfl (I.sub rfl rfl) <| hBind fun x4 h5 => hTake 3 rfl (by kernel_rfl) (by kernel_rfl) (by kernel_rfl) (gd0 rfl) rfl rfl (ixR rfl rfl h5 Try.underlying83 ti102 rfl) <| hTake 4 rfl (by kernel_rfl) (by kernel_rfl) (by kernel_rfl) (gd0 rfl) rfl rfl (ldR rfl ty102) <| hTake 5 rfl (by kernel_rfl) (by kernel_rfl) (by kernel_rfl) (gd0 rfl) rfl rfl (mv rfl) <| hTake 6 rfl (by kernel_rfl) (by kernel_rfl) (by kernel_rfl) (gd0 rfl) rfl rfl (mv rfl) <| hBind fun x6 h7 => hTake 7 rfl (by kernel_rfl) (by kernel_rfl) (by kernel_rfl) (gd0 rfl) rfl rfl (ixR rfl rfl h7 Try.underlying83 ti102 rfl) <| hTake 8 rfl (by kernel_rfl) (by kernel_rfl) (by kernel_rfl) (gd0 rfl) rfl rfl (ldR rfl ty102) <| hCallF 9 [] [] rfl (by kernel_rfl) rfl (gd0 rfl) rfl Try.func136 rfl rfl (digest_Cmp_ok _ _) (aQ rfl <| aQ rfl <| aN) rN rfl (fun _ _ => flat_num) fun r8 n9 => hTake 10 rfl (by kernel_rfl) (by kernel_rfl) (by kernel_rfl) (gd0 rfl) rfl rfl (I.geq rfl rfl) <| hDone (by kernel_rfl) <| eThen <| gIf rfl rfl (fun h10 => ?_) (fun h10 => ?_)
      · skip
        refine gSeq <| gReg <| R rfl (asg rfl) <| gNil <| eThen <| gRet <| eBret <| eTret <| eLret <| eMret <| eRet [] [] rfl (eE rfl <| eN) (rN)
      · skip
        refine gSkip <| eBlk <| eThen <| gReg <| R rfl (mv rfl) <| R rfl (I.add rfl rfl) <| R rfl (asg rfl) <| gNil <| eNext (fun aa ww h => h.sub [] (sS rfl <| sS rfl <| sN) (rN))
    · skip
      refine gExit <| eTexit <| eLeave <| eMidR (fun aa ww h => h.sub [] (sN) (rN))
  · skip
    refine gSeq <| gReg <| R rfl (asg rfl) <| gNil <| eThen <| gRet <| eRet [] [] rfl (eE rfl <| eN) (rN)
def wire_rising_1 (a0 : Vector UInt8 32) (c1_0 : Int) (c2_0 : List (Vector UInt8 32)) : Option (Bool × Int) :=
  if decide ((w64 (c1_0 + 1)) < (c2_0.length : Int)) then
    idx c2_0 (w64 ((w64 (c1_0 + 1)) - 1)) >>= fun x3 =>
    idx c2_0 (w64 (c1_0 + 1)) >>= fun x5 =>
    digest_Cmp x3 x5 >>= fun r7 =>
    some (decide (0 ≤ r7)) >>= fun y9 =>
    some (y9, w64 (c1_0 + 1))
  else
    some (false, w64 (c1_0 + 1))
set_option maxRecDepth 100000 in
theorem wire_rising_1_ok (a0 : Vector UInt8 32) (p1_0 : Value) (c1_0 : Int) (p2_0 : Value) (c2_0 : List (Vector UInt8 32)) : Spec Try.prog 135 [.rd (arrR 32 u8R) a0, .val (ptrTo p1_0 0), .val (ptrTo p2_0 0)] [(1, some (p1_0, .box 3 [.rd i64R c1_0])), (2, some (p2_0, .box 83 [.rd (sliceR (arrR 32 u8R)) c2_0]))] (wire_rising_1 a0 c1_0 c2_0) (fun r nv => ⟨[.rd boolR r.1], [(1, some (p1_0, .box 3 [.rd i64R r.2])), (2, some (p2_0, .box 83 [.rd (sliceR (arrR 32 u8R)) c2_0]))]⟩) := by
  refine spec 24 Try.func135 rfl rfl rfl fun H w => ?_
  refine gSeq <| gReg <| Eb rfl (bx 3 rfl) fun v1 => R rfl (asg rfl) <| gNil <| eThen <| gSeq <| gReg <| R rfl (ld 1 rfl rfl Foc.here ty3 rfl) <| R rfl (I.add rfl rfl) <| Es (sto 1 rfl rfl Foc.here rfl ti3) <| gNil <| eThen <| gSeq <| gRegH [] mixed rfl rfl <| hTake 0 rfl (by kernel_rfl) (by kernel_rfl) (by kernel_rfl) (gd0 rfl) rfl rfl (ld 1 rfl rfl Foc.here ty3 rfl) <| hTake 1 rfl (by kernel_rfl) (by kernel_rfl) (by kernel_rfl) (gd0 rfl) rfl rfl (ld 2 rfl rfl Foc.here ty83 rfl) <| hTake 2 rfl (by kernel_rfl) (by kernel_rfl) (by kernel_rfl) (gd0 rfl) rfl rfl (len' rfl .rd rfl Try.underlying83) <| hTake 3 rfl (by kernel_rfl) (by kernel_rfl) (by kernel_rfl) (gd0 rfl) rfl rfl (I.lss rfl rfl) <| hTake 4 rfl (by kernel_rfl) (by kernel_rfl) (by kernel_rfl) (gd0 rfl) rfl rfl (mv rfl) <| hIf 11 rfl rfl (fun h2 => ?_) (fun h2 => ?_)
  · skip
    refine hKn 10 rfl rfl h2 <| hTake 5 rfl (by kernel_rfl) (by kernel_rfl) (by kernel_rfl) (gd rfl rfl rfl rfl) rfl rfl (ld 2 rfl rfl Foc.here ty83 rfl) <| hTake 6 rfl (by kernel_rfl) (by kernel_rfl) (by kernel_rfl) (gd rfl rfl rfl rfl) rfl rfl (ld 1 rfl rfl Foc.here ty3 rfl) <| hTake 7 rfl (by kernel_rfl) (by kernel_rfl) (by kernel_rfl) (gd rfl rfl rfl rfl) rfl rfl (I.sub rfl rfl) <| hBind fun x3 h4 => hTake 8 rfl (by kernel_rfl) (by kernel_rfl) (by kernel_rfl) (gd rfl rfl rfl rfl) rfl rfl (ixR rfl rfl h4 Try.underlying83 ti102 rfl) <| hTake 9 rfl (by kernel_rfl) (by kernel_rfl) (by kernel_rfl) (gd rfl rfl rfl rfl) rfl rfl (ldR rfl ty102) <| hTake 10 rfl (by kernel_rfl) (by kernel_rfl) (by kernel_rfl) (gd rfl rfl rfl rfl) rfl rfl (ld 2 rfl rfl Foc.here ty83 rfl) <| hTake 11 rfl (by kernel_rfl) (by kernel_rfl) (by kernel_rfl) (gd rfl rfl rfl rfl) rfl rfl (ld 1 rfl rfl Foc.here ty3 rfl) <| hBind fun x5 h6 => hTake 12 rfl (by kernel_rfl) (by kernel_rfl) (by kernel_rfl) (gd rfl rfl rfl rfl) rfl rfl (ixR rfl rfl h6 Try.underlying83 ti102 rfl) <| hTake 13 rfl (by kernel_rfl) (by kernel_rfl) (by kernel_rfl) (gd rfl rfl rfl rfl) rfl rfl (ldR rfl ty102) <| hCallF 14 [] [] rfl (by kernel_rfl) rfl (gd rfl rfl rfl rfl) rfl Try.func136 rfl rfl (digest_Cmp_ok _ _) (aQ rfl <| aQ rfl <| aN) rN rfl (fun _ _ => flat_num) fun r7 n8 => hTake 15 rfl (by kernel_rfl) (by kernel_rfl) (by kernel_rfl) (gd rfl rfl rfl rfl) rfl rfl (I.geq rfl rfl) <| hTake 16 rfl (by kernel_rfl) (by kernel_rfl) (by kernel_rfl) (gd0 rfl) rfl rfl (pkT rfl rfl) <| hTake 17 rfl (by kernel_rfl) (by kernel_rfl) (by kernel_rfl) (gd0 rfl) rfl rfl (asg rfl) <| hName 4 rfl rfl fun y9 => hDone (by kernel_rfl) <| eThen <| gRet <| eRet [] [1, 2] rfl (eE rfl <| eN) (rR rfl rfl <| rR rfl rfl <| rN)
  · skip
    refine hKn 10 rfl rfl h2 <| hSkip 5 rfl (by kernel_rfl) (by kernel_rfl) (by kernel_rfl) (gd rfl rfl rfl rfl) rfl rfl <| hSkip 6 rfl (by kernel_rfl) (by kernel_rfl) (by kernel_rfl) (gd rfl rfl rfl rfl) rfl rfl <| hSkip 7 rfl (by kernel_rfl) (by kernel_rfl) (by kernel_rfl) (gd rfl rfl rfl rfl) rfl rfl <| hSkip 8 rfl (by kernel_rfl) (by kernel_rfl) (by kernel_rfl) (gd rfl rfl rfl rfl) rfl rfl <| hSkip 9 rfl (by kernel_rfl) (by kernel_rfl) (by kernel_rfl) (gd rfl rfl rfl rfl) rfl rfl <| hSkip 10 rfl (by kernel_rfl) (by kernel_rfl) (by kernel_rfl) (gd rfl rfl rfl rfl) rfl rfl <| hSkip 11 rfl (by kernel_rfl) (by kernel_rfl) (by kernel_rfl) (gd rfl rfl rfl rfl) rfl rfl <| hSkip 12 rfl (by kernel_rfl) (by kernel_rfl) (by kernel_rfl) (gd rfl rfl rfl rfl) rfl rfl <| hSkip 13 rfl (by kernel_rfl) (by kernel_rfl) (by kernel_rfl) (gd rfl rfl rfl rfl) rfl rfl <| hSkip 14 rfl (by kernel_rfl) (by kernel_rfl) (by kernel_rfl) (gd rfl rfl rfl rfl) rfl rfl <| hSkip 15 rfl (by kernel_rfl) (by kernel_rfl) (by kernel_rfl) (gd rfl rfl rfl rfl) rfl rfl <| hTake 16 rfl (by kernel_rfl) (by kernel_rfl) (by kernel_rfl) (gd0 rfl) rfl rfl (pkF rfl rfl) <| hTake 17 rfl (by kernel_rfl) (by kernel_rfl) (by kernel_rfl) (gd0 rfl) rfl rfl (asg rfl) <| hDone (by kernel_rfl) <| eThen <| gRet <| eRet [] [1, 2] rfl (eE rfl <| eN) (rR rfl rfl <| rR rfl rfl <| rN)
def slices_IndexFunc_api_ID_api_ID_wire_rising_1_L0 (a0 : List (Vector UInt8 32)) (c1_1 : List (Vector UInt8 32)) (s2 : Int × Int) : Option (Sum (Sum (Int × Int) Int) (Int × Int)) :=
  if decide (s2.2 < (a0.length : Int)) then
    idx a0 s2.2 >>= fun x4 =>
    wire_rising_1 x4 s2.1 c1_1 >>= fun r6 =>
    if r6.1 then
      some (.inl (.inl (s2.2, r6.2)))
    else
      some (.inr (r6.2, w64 (s2.2 + 1)))
  else
    some (.inl (.inr s2.1))
def slices_IndexFunc_api_ID_api_ID_wire_rising_1 (a0 : List (Vector UInt8 32)) (c1_0 : Int) (c1_1 : List (Vector UInt8 32)) : Option (Int × Int) :=
  orRet (iter (slices_IndexFunc_api_ID_api_ID_wire_rising_1_L0 a0 c1_1) (c1_0, 0)) fun s1 =>
  some ((-1), s1)
set_option maxRecDepth 100000 in
theorem slices_IndexFunc_api_ID_api_ID_wire_rising_1_ok (a0 : List (Vector UInt8 32)) (p1_0 : Value) (c1_0 : Int) (p1_1 : Value) (c1_1 : List (Vector UInt8 32)) : Spec Try.prog 139 [.rd (sliceR (arrR 32 u8R)) a0, .val (.func (.func 135) #[] #[ptrTo p1_0 0, ptrTo p1_1 0])] [(1, some (p1_0, .box 3 [.rd i64R c1_0])), (2, some (p1_1, .box 83 [.rd (sliceR (arrR 32 u8R)) c1_1]))] (slices_IndexFunc_api_ID_api_ID_wire_rising_1 a0 c1_0 c1_1) (fun r nv => ⟨[.rd i64R r.1], [(1, some (p1_0, .box 3 [.rd i64R r.2])), (2, some (p1_1, .box 83 [.rd (sliceR (arrR 32 u8R)) c1_1]))]⟩) := by
  refine spec 19 Try.func139 rfl rfl rfl fun H w => ?_
  refine gSeq <| gReg <| R rfl (asg rfl) <| gNil <| eThen <| gMidR (fun (s1 : Int) aa ww => Sta (ctx 19 H [(1, some (p1_0, .box 3 [.rd i64R c1_0])), (2, some (p1_1, .box 83 [.rd (sliceR (arrR 32 u8R)) c1_1]))] w) [] [(1, some (p1_0, .box 3 [.rd i64R s1])), (2, some (p1_1, .box 83 [.rd (sliceR (arrR 32 u8R)) c1_1]))] aa ww) ?_ (fun s1 => ?_)
  · skip
    refine gSeq <| gReg <| R rfl (mv rfl) <| R rfl (len' rfl .rd rfl Try.underlying83) <| R rfl (mv rfl) <| gNil <| eThen <| gLoop (fun (s2 : Int × Int) aa ww => Sta (ctx 19 H [(1, some (p1_0, .box 3 [.rd i64R c1_0])), (2, some (p1_1, .box 83 [.rd (sliceR (arrR 32 u8R)) c1_1]))] w) [(0, .rd (sliceR (arrR 32 u8R)) a0), (1, .val (.func (.func 135) #[] #[ptrTo p1_0 0, ptrTo p1_1 0])), (7, .rd i64R (a0.length : Int)), (8, .rd i64R s2.2)] [(1, some (p1_0, .box 3 [.rd i64R s2.1])), (2, some (p1_1, .box 83 [.rd (sliceR (arrR 32 u8R)) c1_1]))] aa ww) (fun aa ww h => h.sub [1, 2] (sS rfl <| sS rfl <| sS rfl <| sS rfl <| sN) (rR rfl rfl <| rR rfl rfl <| rN)) (fun s2 => ?_)
    refine gSeq <| gReg <| R rfl (I.lss rfl rfl) <| gNil <| eThen <| gSeq <| gIf rfl rfl (fun h3 => ?_) (fun h3 => ?_)
    · skip
      refine gSkip <| eThen <| gSeq <| gBlk <| gSeq <| gReg <| R rfl (mv rfl) <| R rfl (asg rfl) <| gNil <| eThen <| gSeq <| gReg <| R rfl (mv rfl) <| R rfl (mv rfl) <| R rfl (mv rfl) <| lBind fun x4 h5 => R rfl (ixR rfl rfl h5 Try.underlying83 ti102 rfl) <| R rfl (ldR rfl ty102) <| callv [1, 2] [(1, 1), (2, 2)] (gd0 rfl) rfl rfl Try.func135 rfl rfl (wire_rising_1_ok _ _ _ _ _) (aQ rfl <| aN) (cQ 1 rfl <| cQ 2 rfl <| cN) (rR rfl rfl <| rR rfl rfl <| rN) fun r6 n7 => gNil <| eThen <| gIf rfl rfl (fun h8 => ?_) (fun h8 => ?_)
      · skip
        refine gSeq <| gReg <| R rfl (mv rfl) <| R rfl (asg rfl) <| gNil <| eThen <| gRet <| eBret <| eTret <| eLret <| eMret <| eRet [] [1, 2] rfl (eE rfl <| eN) (rR rfl rfl <| rR rfl rfl <| rN)
      · skip
        refine gSkip <| eBlk <| eThen <| gReg <| R rfl (I.add rfl rfl) <| R rfl (mv rfl) <| gNil <| eNext (fun aa ww h => h.sub [1, 2] (sS rfl <| sS rfl <| sS rfl <| sS rfl <| sN) (rR rfl rfl <| rR rfl rfl <| rN))
    · skip
      refine gExit <| eTexit <| eLeave <| eMidR (fun aa ww h => h.sub [1, 2] (sN) (rR rfl rfl <| rR rfl rfl <| rN))
  · skip
    refine gSeq <| gReg <| R rfl (asg rfl) <| gNil <| eThen <| gRet <| eRet [] [1, 2] rfl (eE rfl <| eN) (rR rfl rfl <| rR rfl rfl <| rN)
def slices_ContainsFunc_api_ID_api_ID_wire_rising_1 (a0 : List (Vector UInt8 32)) (c1_0 : Int) (c1_1 : List (Vector UInt8 32)) : Option (Bool × Int) :=
  slices_IndexFunc_api_ID_api_ID_wire_rising_1 a0 c1_0 c1_1 >>= fun r1 =>
  some (decide (0 ≤ r1.1)) >>= fun y3 =>
  some (y3, r1.2)
set_option maxRecDepth 100000 in
theorem slices_ContainsFunc_api_ID_api_ID_wire_rising_1_ok (a0 : List (Vector UInt8 32)) (p1_0 : Value) (c1_0 : Int) (p1_1 : Value) (c1_1 : List (Vector UInt8 32)) : Spec Try.prog 134 [.rd (sliceR (arrR 32 u8R)) a0, .val (.func (.func 135) #[] #[ptrTo p1_0 0, ptrTo p1_1 0])] [(1, some (p1_0, .box 3 [.rd i64R c1_0])), (2, some (p1_1, .box 83 [.rd (sliceR (arrR 32 u8R)) c1_1]))] (slices_ContainsFunc_api_ID_api_ID_wire_rising_1 a0 c1_0 c1_1) (fun r nv => ⟨[.rd boolR r.1], [(1, some (p1_0, .box 3 [.rd i64R r.2])), (2, some (p1_1, .box 83 [.rd (sliceR (arrR 32 u8R)) c1_1]))]⟩) := by
  refine spec 9 Try.func134 rfl rfl rfl fun H w => ?_
  refine gSeq <| gReg <| R rfl (asg rfl) <| gNil <| eThen <| gSeq <| gReg <| R rfl (mv rfl) <| R rfl (mv rfl) <| call [1, 2] [(1, 1), (2, 2)] rfl Try.func139 rfl rfl (slices_IndexFunc_api_ID_api_ID_wire_rising_1_ok _ _ _ _ _) (aQ rfl <| aQ rfl <| aN) (rR rfl rfl <| rR rfl rfl <| rN) fun r1 n2 => R rfl (I.geq rfl rfl) <| R rfl (asg rfl) <| lName 4 rfl fun y3 => gNil <| eThen <| gRet <| eRet [] [1, 2] rfl (eE rfl <| eN) (rR rfl rfl <| rR rfl rfl <| rN)
def wire_rising (a0 : List (Vector UInt8 32)) : Option (Bool) :=
  slices_ContainsFunc_api_ID_api_ID_wire_rising_1 a0 0 a0 >>= fun r3 =>
  some (!r3.1)
set_option maxRecDepth 100000 in
theorem wire_rising_ok (a0 : List (Vector UInt8 32)) : Spec Try.prog 115 [.rd (sliceR (arrR 32 u8R)) a0] [] (wire_rising a0) (fun r nv => ⟨[.rd boolR r], []⟩) := by
  refine spec 8 Try.func115 rfl rfl rfl fun H w => ?_
  refine gSeq <| gReg <| Eb rfl (bx 1 rfl) fun v1 => R rfl (asg rfl) <| gNil <| eThen <| gSeq <| gReg <| Eb rfl (allc 2 ti3 (.zr (Zr.num rfl))) fun v2 => Es (sto 2 rfl rfl Foc.here rfl ti3) <| gNil <| eThen <| gSeq <| gReg <| R rfl (ld 1 rfl rfl Foc.here ty83 rfl) <| R rfl (mkf mp0 (mp2 rfl rfl)) <| call [2, 1] [(1, 2), (2, 1)] rfl Try.func134 rfl rfl (slices_ContainsFunc_api_ID_api_ID_wire_rising_1_ok _ _ _ _ _) (aQ rfl <| aQ rfl <| aN) (rR rfl rfl <| rR rfl rfl <| rN) fun r3 n4 => R rfl (not' rfl) <| R rfl (asg rfl) <| gNil <| eThen <| gRet <| eRet [] [] rfl (eE rfl <| eN) (rN)
def math_bits_Len64 (a0 : UInt64) : Option (Int) :=
  (if decide (4294967296 ≤ a0) then
    some (shr64 a0 32, 32)
  else
    some (a0, 0)) >>= fun s1 =>
  (if decide (65536 ≤ s1.1) then
    some (shr64 s1.1 16) >>= fun y5 =>
    some (w64 (s1.2 + 16)) >>= fun y6 =>
    some (y5, y6)
  else
    some (s1.1, s1.2)) >>= fun s3 =>
  (if decide (256 ≤ s3.1) then
    some (w64 (s3.2 + 8)) >>= fun y9 =>
    some (shr64 s3.1 8, y9)
  else
    some (s3.1, s3.2)) >>= fun s7 =>
  idx ([0, 1, 2, 2, 3, 3, 3, 3, 4, 4, 4, 4, 4, 4, 4, 4, 5, 5, 5, 5, 5, 5, 5, 5, 5, 5, 5, 5, 5, 5, 5, 5, 6, 6, 6, 6, 6, 6, 6, 6, 6, 6, 6, 6, 6, 6, 6, 6, 6, 6, 6, 6, 6, 6, 6, 6, 6, 6, 6, 6, 6, 6, 6, 6, 7, 7, 7, 7, 7, 7, 7, 7, 7, 7, 7, 7, 7, 7, 7, 7, 7, 7, 7, 7, 7, 7, 7, 7, 7, 7, 7, 7, 7, 7, 7, 7, 7, 7, 7, 7, 7, 7, 7, 7, 7, 7, 7, 7, 7, 7, 7, 7, 7, 7, 7, 7, 7, 7, 7, 7, 7, 7, 7, 7, 7, 7, 7, 7, 8, 8, 8, 8, 8, 8, 8, 8, 8, 8, 8, 8, 8, 8, 8, 8, 8, 8, 8, 8, 8, 8, 8, 8, 8, 8, 8, 8, 8, 8, 8, 8, 8, 8, 8, 8, 8, 8, 8, 8, 8, 8, 8, 8, 8, 8, 8, 8, 8, 8, 8, 8, 8, 8, 8, 8, 8, 8, 8, 8, 8, 8, 8, 8, 8, 8, 8, 8, 8, 8, 8, 8, 8, 8, 8, 8, 8, 8, 8, 8, 8, 8, 8, 8, 8, 8, 8, 8, 8, 8, 8, 8, 8, 8, 8, 8, 8, 8, 8, 8, 8, 8, 8, 8, 8, 8, 8, 8, 8, 8, 8, 8, 8, 8, 8, 8, 8, 8, 8, 8, 8, 8, 8, 8, 8, 8, 8, 8] : List UInt8) (s7.1.toUInt8.toNat : Int) >>= fun x10 =>
  some (w64 (s7.2 + (x10.toNat : Int))) >>= fun y12 =>
  some y12
set_option maxRecDepth 100000 in
theorem math_bits_Len64_ok (a0 : UInt64) : Spec Try.prog 100 [.rd u64R a0] [] (math_bits_Len64 a0) (fun r nv => ⟨[.rd i64R r], []⟩) := by
  refine spec 25 Try.func100 rfl rfl rfl fun H w => ?_
  refine gSeq <| gReg <| R rfl (asg rfl) <| gNil <| eThen <| gMid (fun (s1 : UInt64 × Int) aa ww => Sta (ctx 25 H [] w) [(0, .rd u64R s1.1), (2, .rd i64R s1.2)] [] aa ww) ?_ (fun s1 => ?_)
  · skip
    refine gSeq <| gReg <| R rfl (mv rfl) <| R rfl (U.geq rfl rfl) <| gNil <| eThen <| gIf rfl rfl (fun h2 => ?_) (fun h2 => ?_)
    · skip
      refine gSeq <| gReg <| R rfl (mv rfl) <| R rfl (U.shr rfl rfl (Int.natCast_nonneg _)) <| R rfl (asg rfl) <| gNil <| eThen <| gReg <| R rfl (asg rfl) <| gNil <| eMid (fun aa ww h => h.sub [] (sS rfl <| sS rfl <| sN) (rN))
    · skip
      refine gSkip <| eMid (fun aa ww h => h.sub [] (sS rfl <| sS rfl <| sN) (rN))
  · skip
    refine gMid (fun (s3 : UInt64 × Int) aa ww => Sta (ctx 25 H [] w) [(0, .rd u64R s3.1), (2, .rd i64R s3.2)] [] aa ww) ?_ (fun s3 => ?_)
    · skip
      refine gSeq <| gReg <| R rfl (mv rfl) <| R rfl (U.geq rfl rfl) <| gNil <| eThen <| gIf rfl rfl (fun h4 => ?_) (fun h4 => ?_)
      · skip
        refine gSeq <| gReg <| R rfl (mv rfl) <| R rfl (U.shr rfl rfl (Int.natCast_nonneg _)) <| R rfl (asg rfl) <| lName 0 rfl fun y5 => gNil <| eThen <| gReg <| R rfl (mv rfl) <| R rfl (I.add rfl rfl) <| R rfl (asg rfl) <| lName 2 rfl fun y6 => gNil <| eMid (fun aa ww h => h.sub [] (sS rfl <| sS rfl <| sN) (rN))
      · skip
        refine gSkip <| eMid (fun aa ww h => h.sub [] (sS rfl <| sS rfl <| sN) (rN))
    · skip
      refine gMid (fun (s7 : UInt64 × Int) aa ww => Sta (ctx 25 H [] w) [(0, .rd u64R s7.1), (2, .rd i64R s7.2)] [] aa ww) ?_ (fun s7 => ?_)
      · skip
        refine gSeq <| gReg <| R rfl (mv rfl) <| R rfl (U.geq rfl rfl) <| gNil <| eThen <| gIf rfl rfl (fun h8 => ?_) (fun h8 => ?_)
        · skip
          refine gSeq <| gReg <| R rfl (mv rfl) <| R rfl (U.shr rfl rfl (Int.natCast_nonneg _)) <| R rfl (asg rfl) <| gNil <| eThen <| gReg <| R rfl (mv rfl) <| R rfl (I.add rfl rfl) <| R rfl (asg rfl) <| lName 2 rfl fun y9 => gNil <| eMid (fun aa ww h => h.sub [] (sS rfl <| sS rfl <| sN) (rN))
        · skip
          refine gSkip <| eMid (fun aa ww h => h.sub [] (sS rfl <| sS rfl <| sN) (rN))
      · skip
        refine gSeq <| gReg <| R rfl (mv rfl) <| R rfl (mv rfl) <| R rfl (U.toB rfl Try.underlying31 Try.underlying5) <| lBind fun x10 h11 => R rfl (idxT rfl rfl Try.underlying9 (idx_some h11).1 (idx_some h11).2.1) <| R rfl (B.toI rfl Try.underlying5 Try.underlying3) <| R rfl (I.add rfl rfl) <| R rfl (asg rfl) <| lName 2 rfl fun y12 => gNil <| eThen <| gRet <| eRet [] [] rfl (eE rfl <| eN) (rN)
def wire_Number_L0 (a0 : UInt64) (y5 : Int) (s12 : (List UInt8) × Int) : Option (Sum ((List UInt8)) ((List UInt8) × Int)) :=
  if decide (s12.2 < y5) then
    chk (0 ≤ w64 (8 * s12.2)) >>= fun u14 =>
    idx s12.1 (w64 (y5 - s12.2)) >>= fun x16 =>
    some (.inr (s12.1.set (w64 (y5 - s12.2) : Int).toNat ((shr64 a0 ((w64 (8 * s12.2) : Int).toNat)).toUInt8), w64 (s12.2 + 1)))
  else
    some (.inl s12.1)
def wire_Number (a0 : UInt64) : Option ((List UInt8)) :=
  if decide (a0 ≤ 247) then
    some [a0.toUInt8]
  else
    math_bits_Len64 a0 >>= fun r3 =>
    some (w64 (Int.tdiv (w64 (r3 + 7)) 8)) >>= fun y5 =>
    mkn 1 0 (w64 (y5 + 1)) >>= fun x6 =>
    idx x6 0 >>= fun x9 =>
    (iter (wire_Number_L0 a0 y5) (x6.set (0 : Int).toNat (UInt8.ofInt (w64 (247 + y5))), 0)) >>= fun s11 =>
    some s11
set_option maxRecDepth 100000 in
theorem wire_Number_ok (a0 : UInt64) : Spec Try.prog 31 [.rd u64R a0] [] (wire_Number a0) (fun r nv => ⟨[.val (nv 0)], [(100, some (nv 0, .list u8R 5 r))]⟩) := by
  refine spec 39 Try.func31 rfl rfl rfl fun H w => ?_
  refine gSeq <| gReg <| R rfl (asg rfl) <| gNil <| eThen <| gSeq <| gSeq <| gReg <| R rfl (mv rfl) <| R rfl (U.leq rfl rfl) <| gNil <| eThen <| gIf rfl rfl (fun h1 => ?_) (fun h1 => ?_)
  · skip
    refine gSeq <| gReg <| R rfl (mv rfl) <| R rfl (U.toB rfl Try.underlying31 Try.underlying5) <| Ef rfl (lit (R := u8R) ([a0.toUInt8] : List UInt8) 1 (pP rfl rfl <| pN) rfl Try.underlying32 ti5 rfl rfl) fun v2 => R rfl (asg rfl) <| gNil <| eThen <| gRet <| eTret <| eRet [v2] [1] rfl (eE rfl <| eN) (rR rfl rfl <| rN)
  · skip
    refine gSkip <| eThen <| gSeq <| gReg <| R rfl (mv rfl) <| call [] [] rfl Try.func100 rfl rfl (math_bits_Len64_ok _) (aQ rfl <| aN) rN fun r3 n4 => R rfl (I.add rfl rfl) <| R rfl (I.quo rfl rfl (by decide)) <| R rfl (asg rfl) <| lName 3 rfl fun y5 => gNil <| eThen <| gSeq <| gReg <| R rfl (mv rfl) <| R rfl (I.add rfl rfl) <| lBind fun x6 h7 => Ef rfl (mks 2 rfl rfl h7 Try.underlying32 ti5 (Zr.num rfl) rfl) fun v8 => R rfl (asg rfl) <| gNil <| eThen <| gSeq <| gReg <| R rfl (mv rfl) <| R rfl (mv rfl) <| R rfl (I.add rfl rfl) <| R rfl (I.toB rfl Try.underlying3 Try.underlying5) <| lBind fun x9 h10 => R rfl (ixO 2 rfl rfl rfl h10 Try.underlying32 ti5) <| Es (sto 2 rfl rfl (Foc.el h10) rfl ti5) <| gNil <| eThen <| gMid (fun (s11 : (List UInt8)) aa ww => Sta (ctx 39 H [] w) [(4, .val v8)] [(2, some (v8, .list u8R 5 s11))] aa ww) ?_ (fun s11 => ?_)
    · skip
      refine gSeq <| gReg <| R rfl (mv rfl) <| R rfl (mv rfl) <| gNil <| eThen <| gLoop (fun (s12 : (List UInt8) × Int) aa ww => Sta (ctx 39 H [] w) [(0, .rd u64R a0), (3, .rd i64R y5), (4, .val v8), (23, .rd i64R y5), (24, .rd i64R s12.2)] [(2, some (v8, .list u8R 5 s12.1))] aa ww) (fun aa ww h => h.sub [2] (sS rfl <| sS rfl <| sS rfl <| sS rfl <| sS rfl <| sN) (rR rfl rfl <| rN)) (fun s12 => ?_)
      refine gSeq <| gReg <| R rfl (I.lss rfl rfl) <| gNil <| eThen <| gSeq <| gIf rfl rfl (fun h13 => ?_) (fun h13 => ?_)
      · skip
        refine gSkip <| eThen <| gSeq <| gBlk <| gSeq <| gReg <| R rfl (mv rfl) <| R rfl (asg rfl) <| gNil <| eThen <| gReg <| R rfl (mv rfl) <| R rfl (mv rfl) <| R rfl (mv rfl) <| R rfl (I.sub rfl rfl) <| R rfl (mv rfl) <| R rfl (mv rfl) <| R rfl (I.mul rfl rfl) <| lBind fun u14 h15 => R rfl (U.shr rfl rfl (chk_some h15)) <| R rfl (U.toB rfl Try.underlying31 Try.underlying5) <| lBind fun x16 h17 => R rfl (ixO 2 rfl rfl rfl h17 Try.underlying32 ti5) <| Es (sto 2 rfl rfl (Foc.el h17) rfl ti5) <| gNil <| eBlk <| eThen <| gReg <| R rfl (I.add rfl rfl) <| R rfl (mv rfl) <| gNil <| eNext (fun aa ww h => h.sub [2] (sS rfl <| sS rfl <| sS rfl <| sS rfl <| sS rfl <| sN) (rR rfl rfl <| rN))
      · skip
        refine gExit <| eTexit <| eLeave <| eMid (fun aa ww h => h.sub [2] (sS rfl <| sN) (rR rfl rfl <| rN))
    · skip
      refine gSeq <| gReg <| R rfl (mv rfl) <| R rfl (asg rfl) <| gNil <| eThen <| gRet <| eRet [v8] [2] rfl (eE rfl <| eN) (rR rfl rfl <| rN)
def wire_IDs_L0 (a0 : List (Vector UInt8 32)) (s8 : (List UInt8) × Int) : Option (Sum ((List UInt8)) ((List UInt8) × Int)) :=
  if decide (s8.2 < (a0.length : Int)) then
    idx a0 s8.2 >>= fun x11 =>
    app 1 s8.1 x11.toList >>= fun x14 =>
    some (.inr (x14, w64 (s8.2 + 1)))
  else
    some (.inl s8.1)
def wire_IDs (a0 : List (Vector UInt8 32)) : Option ((List UInt8) × Int) :=
  if decide (60 < (a0.length : Int)) then
    some ([], 4)
  else
    wire_rising a0 >>= fun r2 =>
    if !r2 then
      some ([], 32)
    else
      wire_Number (UInt64.ofInt (a0.length : Int)) >>= fun r5 =>
      (iter (wire_IDs_L0 a0) (r5, 0)) >>= fun s7 =>
      some (s7, 0)
set_option maxRecDepth 100000 in
theorem wire_IDs_ok (a0 : List (Vector UInt8 32)) : Spec Try.prog 59 [.rd (sliceR (arrR 32 u8R)) a0] [] (wire_IDs a0) (fun r nv => ⟨[.val (nv 0), .rd i64R r.2], [(100, some (nv 0, .list u8R 5 r.1))]⟩) := by
  refine spec 28 Try.func59 rfl rfl rfl fun H w => ?_
  refine gSeq <| gReg <| R rfl (asg rfl) <| R rfl (asg rfl) <| gNil <| eThen <| gSeq <| gSeq <| gReg <| R rfl (mv rfl) <| R rfl (len' rfl .rd rfl Try.underlying83) <| R rfl (I.gtr rfl rfl) <| gNil <| eThen <| gIf rfl rfl (fun h1 => ?_) (fun h1 => ?_)
  · skip
    refine gSeq <| gReg <| R rfl (asg rfl) <| R rfl (asg rfl) <| gNil <| eThen <| gRet <| eTret <| eNew u8R 5 1 <| eRet [(.slice none 0 0)] [1] rfl (eE rfl <| eE rfl <| eN) (rR rfl rfl <| rN)
  · skip
    refine gSkip <| eThen <| gSeq <| gSeq <| gReg <| R rfl (mv rfl) <| call [] [] rfl Try.func115 rfl rfl (wire_rising_ok _) (aQ rfl <| aN) rN fun r2 n3 => R rfl (not' rfl) <| gNil <| eThen <| gIf rfl rfl (fun h4 => ?_) (fun h4 => ?_)
    · skip
      refine gSeq <| gReg <| R rfl (asg rfl) <| R rfl (asg rfl) <| gNil <| eThen <| gRet <| eTret <| eNew u8R 5 2 <| eRet [(.slice none 0 0)] [2] rfl (eE rfl <| eE rfl <| eN) (rR rfl rfl <| rN)
    · skip
      refine gSkip <| eThen <| gSeq <| gReg <| R rfl (mv rfl) <| R rfl (len' rfl .rd rfl Try.underlying83) <| R rfl (I.toU rfl Try.underlying3 Try.underlying31) <| call [] [(100, 3)] rfl Try.func31 rfl rfl (wire_Number_ok _) (aQ rfl <| aN) rN fun r5 n6 => R rfl (asg rfl) <| gNil <| eThen <| gMid (fun (s7 : (List UInt8)) aa ww => ∃ nv : Nat → Value, Sta (ctx 28 H [] w) [(4, .val (nv 0))] [(3, some ((nv 0), .list u8R 5 s7))] aa ww) ?_ (fun s7 => ?_)
      · skip
        refine gSeq <| gReg <| R rfl (mv rfl) <| R rfl (len' rfl .rd rfl Try.underlying83) <| R rfl (mv rfl) <| gNil <| eThen <| gLoop (fun (s8 : (List UInt8) × Int) aa ww => ∃ nv : Nat → Value, Sta (ctx 28 H [] w) [(4, .val (nv 0)), (17, .rd (sliceR (arrR 32 u8R)) a0), (18, .rd i64R (a0.length : Int)), (19, .rd i64R s8.2)] [(3, some ((nv 0), .list u8R 5 s8.1))] aa ww) (fun aa ww h => ⟨nvl [(n6 0)], h.sub [3] (sS rfl <| sS rfl <| sS rfl <| sS rfl <| sN) (rR rfl rfl <| rN)⟩) (fun s8 => ?_)
        refine gEx fun n9 => gSeq <| gReg <| R rfl (I.lss rfl rfl) <| gNil <| eThen <| gSeq <| gIf rfl rfl (fun h10 => ?_) (fun h10 => ?_)
        · skip
          refine gSkip <| eThen <| gSeq <| gBlk <| gSeq <| gReg <| lBind fun x11 h12 => R rfl (ixR rfl rfl h12 Try.underlying83 ti102 rfl) <| R rfl (ldR rfl ty102) <| Eb rfl (allc 4 ti102 (.zr zr101)) fun v13 => Es (sto 4 rfl rfl Foc.here rfl ti102) <| gNil <| eThen <| gReg <| R rfl (mv rfl) <| lFrzB 4 6 rfl rfl <| R rfl (cutV rfl Try.underlying102 ti5 rfl rfl rfl) <| lBind fun x14 h15 => Ef rfl (apn 3 rfl rfl rfl .rd h15 Try.underlying32 ti5 rfl rfl rfl) fun v16 => R rfl (asg rfl) <| gNil <| eBlk <| eThen <| gReg <| R rfl (I.add rfl rfl) <| R rfl (mv rfl) <| gNil <| eNext (fun aa ww h => ⟨nvl [v16], h.sub [3] (sS rfl <| sS rfl <| sS rfl <| sS rfl <| sN) (rR rfl rfl <| rN)⟩)
        · skip
          refine gExit <| eTexit <| eLeave <| eMid (fun aa ww h => ⟨nvl [(n9 0)], h.sub [3] (sS rfl <| sN) (rR rfl rfl <| rN)⟩)
      · skip
        refine gEx fun n17 => gSeq <| gReg <| R rfl (mv rfl) <| R rfl (asg rfl) <| R rfl (asg rfl) <| gNil <| eThen <| gRet <| eRet [(n17 0)] [3] rfl (eE rfl <| eE rfl <| eN) (rR rfl rfl <| rN)
def wire_Bytes (a0 : List UInt8) : Option ((List UInt8) × Int) :=
  if decide (10000 < (a0.length : Int)) then
    some ([], 4)
  else
    wire_Number (UInt64.ofInt (a0.length : Int)) >>= fun r2 =>
    app 1 r2 a0 >>= fun x4 =>
    some (x4, 0)
set_option maxRecDepth 100000 in
theorem wire_Bytes_ok (a0 : List UInt8) : Spec Try.prog 47 [.rd (sliceR u8R) a0] [] (wire_Bytes a0) (fun r nv => ⟨[.val (nv 0), .rd i64R r.2], [(100, some (nv 0, .list u8R 5 r.1))]⟩) := by
  refine spec 13 Try.func47 rfl rfl rfl fun H w => ?_
  refine gSeq <| gReg <| R rfl (asg rfl) <| R rfl (asg rfl) <| gNil <| eThen <| gSeq <| gSeq <| gReg <| R rfl (mv rfl) <| R rfl (len' rfl .rd rfl Try.underlying32) <| R rfl (I.gtr rfl rfl) <| gNil <| eThen <| gIf rfl rfl (fun h1 => ?_) (fun h1 => ?_)
  · skip
    refine gSeq <| gReg <| R rfl (asg rfl) <| R rfl (asg rfl) <| gNil <| eThen <| gRet <| eTret <| eNew u8R 5 1 <| eRet [(.slice none 0 0)] [1] rfl (eE rfl <| eE rfl <| eN) (rR rfl rfl <| rN)
  · skip
    refine gSkip <| eThen <| gSeq <| gReg <| R rfl (mv rfl) <| R rfl (len' rfl .rd rfl Try.underlying32) <| R rfl (I.toU rfl Try.underlying3 Try.underlying31) <| call [] [(100, 2)] rfl Try.func31 rfl rfl (wire_Number_ok _) (aQ rfl <| aN) rN fun r2 n3 => R rfl (mv rfl) <| lBind fun x4 h5 => Ef rfl (apn 2 rfl rfl rfl .rd h5 Try.underlying32 ti5 rfl rfl rfl) fun v6 => R rfl (asg rfl) <| R rfl (asg rfl) <| gNil <| eThen <| gRet <| eRet [v6] [2] rfl (eE rfl <| eE rfl <| eN) (rR rfl rfl <| rN)
def frame_write_L1 (a0 : api_Frame) (s29 : (List UInt8) × Bool × Int) : Option (Sum ((List UInt8) × Bool) ((List UInt8) × Bool × Int)) :=
  if s29.2.1 then
    if decide (s29.2.2 < (a0.Ops.length : Int)) then
      idx a0.Ops s29.2.2 >>= fun x33 =>
      wire_Bytes x33 >>= fun r35 =>
      app 1 s29.1 r35.1 >>= fun x37 =>
      idx a0.Ops s29.2.2 >>= fun x40 =>
      some (decide ((x40.length : Int) ≤ 400)) >>= fun y42 =>
      some (w64 (s29.2.2 + 1)) >>= fun y43 =>
      some (.inr (x37, y42, y43))
    else
      some (.inl (s29.1, true))
  else
    some (.inl (s29.1, false))
def frame_write (a0 : api_Frame) : Option ((List UInt8) × Bool) :=
  (frame_listed a0.Kind >>= fun r4 =>
  if r4 then
    (if a0.N == 0 then
      if (a0.Ops.length : Int) == 0 then
        if decide ((a0.IDs.length : Int) ≤ 40) then
          frame_rising a0.IDs >>= fun r11 =>
          some r11
        else
          some false
      else
        some false
    else
      some false) >>= fun s7 =>
    if s7 then
      wire_IDs a0.IDs >>= fun r14 =>
      app 1 [a0.Kind] r14.1 >>= fun x16 =>
      some (x16, true)
    else
      some ([a0.Kind], false)
  else
    if a0.Kind == 5 then
      (if a0.N == 0 then
        if (a0.IDs.length : Int) == 0 then
          some (decide ((a0.Ops.length : Int) ≤ 8)) >>= fun y23 =>
          some y23
        else
          some false
      else
        some false) >>= fun s20 =>
      wire_Number (UInt64.ofInt (a0.Ops.length : Int)) >>= fun r24 =>
      app 1 [a0.Kind] r24 >>= fun x26 =>
      iter (frame_write_L1 a0) (x26, s20, 0)
    else
      (if a0.Kind == 1 then
        some true
      else
        some (a0.Kind == 6)) >>= fun s44 =>
      if s44 then
        (if (a0.IDs.length : Int) == 0 then
          some ((a0.Ops.length : Int) == 0) >>= fun y49 =>
          some y49
        else
          some false) >>= fun s47 =>
        wire_Number a0.N >>= fun r50 =>
        app 1 [a0.Kind] r50 >>= fun x52 =>
        some (x52, s47)
      else
        some ([a0.Kind], false)) >>= fun s3 =>
  if s3.2 then
    some (decide ((s3.1.length : Int) ≤ 2000)) >>= fun y57 =>
    some (s3.1, y57)
  else
    some (s3.1, false)
set_option maxRecDepth 100000 in
theorem frame_write_ok (a0 : api_Frame) : Spec Try.prog 119 [.rd R_api_Frame a0] [] (frame_write a0) (fun r nv => ⟨[.val (nv 0), .rd boolR r.2], [(100, some (nv 0, .list u8R 5 r.1))]⟩) := by
  refine spec 132 Try.func119 rfl rfl rfl fun H w => ?_
  refine gSeq <| gReg <| Eb rfl (bx 1 rfl) fun v1 => R rfl (asg rfl) <| R rfl (asg rfl) <| gNil <| eThen <| gSeq <| gReg <| R rfl (faB 1 rfl rfl Try.underlying105 rfl (by exact ti5)) <| R rfl (ld 1 rfl rfl ((Foc.here).part (pt_api_Frame_Kind _)) ty5 rfl) <| Ef rfl (lit (R := u8R) ([a0.Kind] : List UInt8) 2 (pP rfl rfl <| pN) rfl Try.underlying32 ti5 rfl rfl) fun v2 => R rfl (asg rfl) <| gNil <| eThen <| gSeq <| gReg <| R rfl (asg rfl) <| gNil <| eThen <| gMid (fun (s3 : (List UInt8) × Bool) aa ww => ∃ nv : Nat → Value, Sta (ctx 132 H [] w) [(4, .val (nv 0)), (5, .rd boolR s3.2)] [(2, some ((nv 0), .list u8R 5 s3.1))] aa ww) ?_ (fun s3 => ?_)
  · skip
    refine gBlk <| gSeq <| gReg <| R rfl (faB 1 rfl rfl Try.underlying105 rfl (by exact ti5)) <| R rfl (ld 1 rfl rfl ((Foc.here).part (pt_api_Frame_Kind _)) ty5 rfl) <| call [] [] rfl Try.func121 rfl rfl (frame_listed_ok _) (aQ rfl <| aN) rN fun r4 n5 => R rfl (asg rfl) <| gNil <| eThen <| gIf rfl rfl (fun h6 => ?_) (fun h6 => ?_)
    · skip
      refine gKn 17 rfl h6 <| gMid (fun (s7 : Bool) aa ww => Sta (ctx 132 H [] w) [(1, .val (ptrTo v1 0)), (4, .val v2), (5, .rd boolR s7)] [(1, some (v1, .box 105 [.rd R_api_Frame a0])), (2, some (v2, .list u8R 5 [a0.Kind]))] aa ww) ?_ (fun s7 => ?_)
      · skip
        refine gReg <| R rfl (faB 1 rfl rfl Try.underlying105 rfl (by exact ti31)) <| R rfl (ld 1 rfl rfl ((Foc.here).part (pt_api_Frame_N _)) ty31 rfl) <| R rfl (U.eql rfl rfl) <| R rfl (mv rfl) <| lSplit 21 rfl (fun h8 => ?_) (fun h8 => ?_)
        · skip
          refine lKn 20 rfl h8 <| lRun (gd rfl rfl rfl rfl) rfl rfl (faB 1 rfl rfl Try.underlying105 rfl (by exact ti103)) <| lRun (gd rfl rfl rfl rfl) rfl rfl (ld 1 rfl rfl ((Foc.here).part (pt_api_Frame_Ops _)) ty103 rfl) <| lRun (gd rfl rfl rfl rfl) rfl rfl (len' rfl .rd rfl Try.underlying103) <| lRun (gd rfl rfl rfl rfl) rfl rfl (I.eql rfl rfl) <| R rfl (pkT rfl rfl) <| R rfl (mv rfl) <| lSplit 27 rfl (fun h9 => ?_) (fun h9 => ?_)
          · skip
            refine lKn 25 rfl h9 <| lKn 26 rfl h9 <| lRun (gd rfl rfl rfl rfl) rfl rfl (faB 1 rfl rfl Try.underlying105 rfl (by exact ti83)) <| lRun (gd rfl rfl rfl rfl) rfl rfl (ld 1 rfl rfl ((Foc.here).part (pt_api_Frame_IDs _)) ty83 rfl) <| lRun (gd rfl rfl rfl rfl) rfl rfl (len' rfl .rd rfl Try.underlying83) <| lRun (gd rfl rfl rfl rfl) rfl rfl (I.leq rfl rfl) <| R rfl (pkT rfl rfl) <| R rfl (mv rfl) <| lSplit 33 rfl (fun h10 => ?_) (fun h10 => ?_)
            · skip
              refine lKn 31 rfl h10 <| lKn 32 rfl h10 <| lRun (gd rfl rfl rfl rfl) rfl rfl (faB 1 rfl rfl Try.underlying105 rfl (by exact ti83)) <| lRun (gd rfl rfl rfl rfl) rfl rfl (ld 1 rfl rfl ((Foc.here).part (pt_api_Frame_IDs _)) ty83 rfl) <| callg [] [] (gd rfl rfl rfl rfl) rfl Try.func122 rfl rfl (frame_rising_ok _) (aQ rfl <| aN) rN fun r11 n12 => R rfl (pkT rfl rfl) <| R rfl (asg rfl) <| gNil <| eMid (fun aa ww h => h.sub [1, 2] (sS rfl <| sS rfl <| sS rfl <| sN) (rR rfl rfl <| rR rfl rfl <| rN))
            · skip
              refine lKn 31 rfl h10 <| lKn 32 rfl h10 <| lSkip (gd rfl rfl rfl rfl) rfl rfl <| lSkip (gd rfl rfl rfl rfl) rfl rfl <| lSkip (gd rfl rfl rfl rfl) rfl rfl <| R rfl (pkF rfl rfl) <| R rfl (asg rfl) <| gNil <| eMid (fun aa ww h => h.sub [1, 2] (sS rfl <| sS rfl <| sS rfl <| sN) (rR rfl rfl <| rR rfl rfl <| rN))
          · skip
            refine lKn 25 rfl h9 <| lKn 26 rfl h9 <| lSkip (gd rfl rfl rfl rfl) rfl rfl <| lSkip (gd rfl rfl rfl rfl) rfl rfl <| lSkip (gd rfl rfl rfl rfl) rfl rfl <| lSkip (gd rfl rfl rfl rfl) rfl rfl <| R rfl (pkF rfl rfl) <| R rfl (mv rfl) <| lSkip (gd rfl rfl rfl rfl) rfl rfl <| lSkip (gd rfl rfl rfl rfl) rfl rfl <| lSkip (gd rfl rfl rfl rfl) rfl rfl <| R rfl (pkF rfl rfl) <| R rfl (asg rfl) <| gNil <| eMid (fun aa ww h => h.sub [1, 2] (sS rfl <| sS rfl <| sS rfl <| sN) (rR rfl rfl <| rR rfl rfl <| rN))
        · skip
          refine lKn 20 rfl h8 <| lSkip (gd rfl rfl rfl rfl) rfl rfl <| lSkip (gd rfl rfl rfl rfl) rfl rfl <| lSkip (gd rfl rfl rfl rfl) rfl rfl <| lSkip (gd rfl rfl rfl rfl) rfl rfl <| R rfl (pkF rfl rfl) <| R rfl (mv rfl) <| lSkip (gd rfl rfl rfl rfl) rfl rfl <| lSkip (gd rfl rfl rfl rfl) rfl rfl <| lSkip (gd rfl rfl rfl rfl) rfl rfl <| lSkip (gd rfl rfl rfl rfl) rfl rfl <| R rfl (pkF rfl rfl) <| R rfl (mv rfl) <| lSkip (gd rfl rfl rfl rfl) rfl rfl <| lSkip (gd rfl rfl rfl rfl) rfl rfl <| lSkip (gd rfl rfl rfl rfl) rfl rfl <| R rfl (pkF rfl rfl) <| R rfl (asg rfl) <| gNil <| eMid (fun aa ww h => h.sub [1, 2] (sS rfl <| sS rfl <| sS rfl <| sN) (rR rfl rfl <| rR rfl rfl <| rN))
      · skip
        refine gSeq <| gReg <| R rfl (mv rfl) <| gNil <| eThen <| gIf rfl rfl (fun h13 => ?_) (fun h13 => ?_)
        · skip
          refine gKn 5 rfl h13 <| gSeq <| gReg <| R rfl (faB 1 rfl rfl Try.underlying105 rfl (by exact ti83)) <| R rfl (ld 1 rfl rfl ((Foc.here).part (pt_api_Frame_IDs _)) ty83 rfl) <| call [] [(100, 3)] rfl Try.func59 rfl rfl (wire_IDs_ok _) (aQ rfl <| aN) rN fun r14 n15 => R rfl (mv rfl) <| R rfl (ext rfl rfl) <| R rfl (ext rfl rfl) <| R rfl (asg rfl) <| R rfl (asg rfl) <| gNil <| eThen <| gReg <| R rfl (mv rfl) <| R rfl (mv rfl) <| lBind fun x16 h17 => Ef rfl (apn 2 rfl rfl rfl (.own 3 rfl) h17 Try.underlying32 ti5 rfl rfl rfl) fun v18 => R rfl (asg rfl) <| gNil <| eBlk <| eMid (fun aa ww h => ⟨nvl [v18], h.sub [2] (sS rfl <| sS rfl <| sN) (rR rfl rfl <| rN)⟩)
        · skip
          refine gKn 5 rfl h13 <| gSkip <| eBlk <| eMid (fun aa ww h => ⟨nvl [v2], h.sub [2] (sS rfl <| sS rfl <| sN) (rR rfl rfl <| rN)⟩)
    · skip
      refine gKn 17 rfl h6 <| gSeq <| gReg <| R rfl (faB 1 rfl rfl Try.underlying105 rfl (by exact ti5)) <| R rfl (ld 1 rfl rfl ((Foc.here).part (pt_api_Frame_Kind _)) ty5 rfl) <| R rfl (B.eql rfl rfl) <| R rfl (asg rfl) <| gNil <| eThen <| gIf rfl rfl (fun h19 => ?_) (fun h19 => ?_)
      · skip
        refine gKn 51 rfl h19 <| gMid (fun (s20 : Bool) aa ww => Sta (ctx 132 H [] w) [(1, .val (ptrTo v1 0)), (4, .val v2), (5, .rd boolR s20)] [(1, some (v1, .box 105 [.rd R_api_Frame a0])), (2, some (v2, .list u8R 5 [a0.Kind]))] aa ww) ?_ (fun s20 => ?_)
        · skip
          refine gReg <| R rfl (faB 1 rfl rfl Try.underlying105 rfl (by exact ti31)) <| R rfl (ld 1 rfl rfl ((Foc.here).part (pt_api_Frame_N _)) ty31 rfl) <| R rfl (U.eql rfl rfl) <| R rfl (mv rfl) <| lSplit 55 rfl (fun h21 => ?_) (fun h21 => ?_)
          · skip
            refine lKn 54 rfl h21 <| lRun (gd rfl rfl rfl rfl) rfl rfl (faB 1 rfl rfl Try.underlying105 rfl (by exact ti83)) <| lRun (gd rfl rfl rfl rfl) rfl rfl (ld 1 rfl rfl ((Foc.here).part (pt_api_Frame_IDs _)) ty83 rfl) <| lRun (gd rfl rfl rfl rfl) rfl rfl (len' rfl .rd rfl Try.underlying83) <| lRun (gd rfl rfl rfl rfl) rfl rfl (I.eql rfl rfl) <| R rfl (pkT rfl rfl) <| R rfl (mv rfl) <| lSplit 61 rfl (fun h22 => ?_) (fun h22 => ?_)
            · skip
              refine lKn 59 rfl h22 <| lKn 60 rfl h22 <| lRun (gd rfl rfl rfl rfl) rfl rfl (faB 1 rfl rfl Try.underlying105 rfl (by exact ti103)) <| lRun (gd rfl rfl rfl rfl) rfl rfl (ld 1 rfl rfl ((Foc.here).part (pt_api_Frame_Ops _)) ty103 rfl) <| lRun (gd rfl rfl rfl rfl) rfl rfl (len' rfl .rd rfl Try.underlying103) <| lRun (gd rfl rfl rfl rfl) rfl rfl (I.leq rfl rfl) <| R rfl (pkT rfl rfl) <| R rfl (asg rfl) <| lName 5 rfl fun y23 => gNil <| eMid (fun aa ww h => h.sub [1, 2] (sS rfl <| sS rfl <| sS rfl <| sN) (rR rfl rfl <| rR rfl rfl <| rN))
            · skip
              refine lKn 59 rfl h22 <| lKn 60 rfl h22 <| lSkip (gd rfl rfl rfl rfl) rfl rfl <| lSkip (gd rfl rfl rfl rfl) rfl rfl <| lSkip (gd rfl rfl rfl rfl) rfl rfl <| lSkip (gd rfl rfl rfl rfl) rfl rfl <| R rfl (pkF rfl rfl) <| R rfl (asg rfl) <| gNil <| eMid (fun aa ww h => h.sub [1, 2] (sS rfl <| sS rfl <| sS rfl <| sN) (rR rfl rfl <| rR rfl rfl <| rN))
          · skip
            refine lKn 54 rfl h21 <| lSkip (gd rfl rfl rfl rfl) rfl rfl <| lSkip (gd rfl rfl rfl rfl) rfl rfl <| lSkip (gd rfl rfl rfl rfl) rfl rfl <| lSkip (gd rfl rfl rfl rfl) rfl rfl <| R rfl (pkF rfl rfl) <| R rfl (mv rfl) <| lSkip (gd rfl rfl rfl rfl) rfl rfl <| lSkip (gd rfl rfl rfl rfl) rfl rfl <| lSkip (gd rfl rfl rfl rfl) rfl rfl <| lSkip (gd rfl rfl rfl rfl) rfl rfl <| R rfl (pkF rfl rfl) <| R rfl (asg rfl) <| gNil <| eMid (fun aa ww h => h.sub [1, 2] (sS rfl <| sS rfl <| sS rfl <| sN) (rR rfl rfl <| rR rfl rfl <| rN))
        · skip
          refine gSeq <| gReg <| R rfl (mv rfl) <| R rfl (faB 1 rfl rfl Try.underlying105 rfl (by exact ti103)) <| R rfl (ld 1 rfl rfl ((Foc.here).part (pt_api_Frame_Ops _)) ty103 rfl) <| R rfl (len' rfl .rd rfl Try.underlying103) <| R rfl (I.toU rfl Try.underlying3 Try.underlying31) <| call [] [(100, 4)] rfl Try.func31 rfl rfl (wire_Number_ok _) (aQ rfl <| aN) rN fun r24 n25 => lBind fun x26 h27 => Ef rfl (apn 2 rfl rfl rfl (.own 4 rfl) h27 Try.underlying32 ti5 rfl rfl rfl) fun v28 => R rfl (asg rfl) <| gNil <| eThen <| gSeq <| gReg <| R rfl (asg rfl) <| gNil <| eThen <| gLoop (fun (s29 : (List UInt8) × Bool × Int) aa ww => ∃ nv : Nat → Value, Sta (ctx 132 H [] w) [(1, .val (ptrTo v1 0)), (4, .val (nv 0)), (5, .rd boolR s29.2.1), (8, .rd i64R s29.2.2)] [(1, some (v1, .box 105 [.rd R_api_Frame a0])), (2, some ((nv 0), .list u8R 5 s29.1))] aa ww) (fun aa ww h => ⟨nvl [v28], h.sub [1, 2] (sS rfl <| sS rfl <| sS rfl <| sS rfl <| sN) (rR rfl rfl <| rR rfl rfl <| rN)⟩) (fun s29 => ?_)
          refine gEx fun n30 => gSeq <| gSeq <| gReg <| R rfl (mv rfl) <| R rfl (mv rfl) <| lSplit 75 rfl (fun h31 => ?_) (fun h31 => ?_)
          · skip
            refine lKn 5 rfl h31 <| lKn 74 rfl h31 <| lRun (gd rfl rfl rfl rfl) rfl rfl (mv rfl) <| lRun (gd rfl rfl rfl rfl) rfl rfl (faB 1 rfl rfl Try.underlying105 rfl (by exact ti103)) <| lRun (gd rfl rfl rfl rfl) rfl rfl (ld 1 rfl rfl ((Foc.here).part (pt_api_Frame_Ops _)) ty103 rfl) <| lRun (gd rfl rfl rfl rfl) rfl rfl (len' rfl .rd rfl Try.underlying103) <| lRun (gd rfl rfl rfl rfl) rfl rfl (I.lss rfl rfl) <| R rfl (pkT rfl rfl) <| gNil <| eThen <| gIf rfl rfl (fun h32 => ?_) (fun h32 => ?_)
            · skip
              refine gKn 80 rfl h32 <| gSkip <| eThen <| gSeq <| gBlk <| gSeq <| gReg <| R rfl (faB 1 rfl rfl Try.underlying105 rfl (by exact ti103)) <| R rfl (ld 1 rfl rfl ((Foc.here).part (pt_api_Frame_Ops _)) ty103 rfl) <| R rfl (mv rfl) <| lBind fun x33 h34 => R rfl (ixR rfl rfl h34 Try.underlying103 ti32 rfl) <| R rfl (ldR rfl ty32) <| call [] [(100, 5)] rfl Try.func47 rfl rfl (wire_Bytes_ok _) (aQ rfl <| aN) rN fun r35 n36 => R rfl (mv rfl) <| R rfl (ext rfl rfl) <| R rfl (ext rfl rfl) <| R rfl (asg rfl) <| R rfl (asg rfl) <| gNil <| eThen <| gSeq <| gReg <| R rfl (mv rfl) <| R rfl (mv rfl) <| lBind fun x37 h38 => Ef rfl (apn 2 rfl rfl rfl (.own 5 rfl) h38 Try.underlying32 ti5 rfl rfl rfl) fun v39 => R rfl (asg rfl) <| gNil <| eThen <| gReg <| R rfl (faB 1 rfl rfl Try.underlying105 rfl (by exact ti103)) <| R rfl (ld 1 rfl rfl ((Foc.here).part (pt_api_Frame_Ops _)) ty103 rfl) <| R rfl (mv rfl) <| lBind fun x40 h41 => R rfl (ixR rfl rfl h41 Try.underlying103 ti32 rfl) <| R rfl (ldR rfl ty32) <| R rfl (len' rfl .rd rfl Try.underlying32) <| R rfl (I.leq rfl rfl) <| R rfl (asg rfl) <| lName 5 rfl fun y42 => gNil <| eBlk <| eThen <| gReg <| R rfl (mv rfl) <| R rfl (I.add rfl rfl) <| R rfl (asg rfl) <| lName 8 rfl fun y43 => gNil <| eNext (fun aa ww h => ⟨nvl [v39], h.sub [1, 2] (sS rfl <| sS rfl <| sS rfl <| sS rfl <| sN) (rR rfl rfl <| rR rfl rfl <| rN)⟩)
            · skip
              refine gKn 80 rfl h32 <| gExit <| eTexit <| eLeave <| eBlk <| eMid (fun aa ww h => ⟨nvl [(n30 0)], h.sub [2] (sS rfl <| sS rfl <| sN) (rR rfl rfl <| rN)⟩)
          · skip
            refine lKn 5 rfl h31 <| lKn 74 rfl h31 <| lSkip (gd rfl rfl rfl rfl) rfl rfl <| lSkip (gd rfl rfl rfl rfl) rfl rfl <| lSkip (gd rfl rfl rfl rfl) rfl rfl <| lSkip (gd rfl rfl rfl rfl) rfl rfl <| lSkip (gd rfl rfl rfl rfl) rfl rfl <| R rfl (pkF rfl rfl) <| gNil <| eThen <| gFalse rfl <| gExit <| eTexit <| eLeave <| eBlk <| eMid (fun aa ww h => ⟨nvl [(n30 0)], h.sub [2] (sS rfl <| sS rfl <| sN) (rR rfl rfl <| rN)⟩)
      · skip
        refine gKn 51 rfl h19 <| gMid (fun (s44 : Bool) aa ww => Sta (ctx 132 H [] w) [(1, .val (ptrTo v1 0)), (4, .val v2), (5, .rd boolR false), (103, .rd boolR s44)] [(1, some (v1, .box 105 [.rd R_api_Frame a0])), (2, some (v2, .list u8R 5 [a0.Kind]))] aa ww) ?_ (fun s44 => ?_)
        · skip
          refine gSeq <| gReg <| R rfl (faB 1 rfl rfl Try.underlying105 rfl (by exact ti5)) <| R rfl (ld 1 rfl rfl ((Foc.here).part (pt_api_Frame_Kind _)) ty5 rfl) <| R rfl (B.eql rfl rfl) <| R rfl (asg rfl) <| gNil <| eThen <| gIf rfl rfl (fun h45 => ?_) (fun h45 => ?_)
          · skip
            refine gKn 106 rfl h45 <| gSkip <| eMid (fun aa ww h => h.sub [1, 2] (sS rfl <| sS rfl <| sS rfl <| sS rfl <| sN) (rR rfl rfl <| rR rfl rfl <| rN))
          · skip
            refine gKn 106 rfl h45 <| gReg <| R rfl (faB 1 rfl rfl Try.underlying105 rfl (by exact ti5)) <| R rfl (ld 1 rfl rfl ((Foc.here).part (pt_api_Frame_Kind _)) ty5 rfl) <| R rfl (B.eql rfl rfl) <| R rfl (asg rfl) <| gNil <| eMid (fun aa ww h => h.sub [1, 2] (sS rfl <| sS rfl <| sS rfl <| sS rfl <| sN) (rR rfl rfl <| rR rfl rfl <| rN))
        · skip
          refine gIf rfl rfl (fun h46 => ?_) (fun h46 => ?_)
          · skip
            refine gMid (fun (s47 : Bool) aa ww => Sta (ctx 132 H [] w) [(1, .val (ptrTo v1 0)), (4, .val v2), (5, .rd boolR s47)] [(1, some (v1, .box 105 [.rd R_api_Frame a0])), (2, some (v2, .list u8R 5 [a0.Kind]))] aa ww) ?_ (fun s47 => ?_)
            · skip
              refine gReg <| R rfl (faB 1 rfl rfl Try.underlying105 rfl (by exact ti83)) <| R rfl (ld 1 rfl rfl ((Foc.here).part (pt_api_Frame_IDs _)) ty83 rfl) <| R rfl (len' rfl .rd rfl Try.underlying83) <| R rfl (I.eql rfl rfl) <| R rfl (mv rfl) <| lSplit 114 rfl (fun h48 => ?_) (fun h48 => ?_)
              · skip
                refine lKn 113 rfl h48 <| lRun (gd rfl rfl rfl rfl) rfl rfl (faB 1 rfl rfl Try.underlying105 rfl (by exact ti103)) <| lRun (gd rfl rfl rfl rfl) rfl rfl (ld 1 rfl rfl ((Foc.here).part (pt_api_Frame_Ops _)) ty103 rfl) <| lRun (gd rfl rfl rfl rfl) rfl rfl (len' rfl .rd rfl Try.underlying103) <| lRun (gd rfl rfl rfl rfl) rfl rfl (I.eql rfl rfl) <| R rfl (pkT rfl rfl) <| R rfl (asg rfl) <| lName 5 rfl fun y49 => gNil <| eMid (fun aa ww h => h.sub [1, 2] (sS rfl <| sS rfl <| sS rfl <| sN) (rR rfl rfl <| rR rfl rfl <| rN))
              · skip
                refine lKn 113 rfl h48 <| lSkip (gd rfl rfl rfl rfl) rfl rfl <| lSkip (gd rfl rfl rfl rfl) rfl rfl <| lSkip (gd rfl rfl rfl rfl) rfl rfl <| lSkip (gd rfl rfl rfl rfl) rfl rfl <| R rfl (pkF rfl rfl) <| R rfl (asg rfl) <| gNil <| eMid (fun aa ww h => h.sub [1, 2] (sS rfl <| sS rfl <| sS rfl <| sN) (rR rfl rfl <| rR rfl rfl <| rN))
            · skip
              refine gReg <| R rfl (mv rfl) <| R rfl (faB 1 rfl rfl Try.underlying105 rfl (by exact ti31)) <| R rfl (ld 1 rfl rfl ((Foc.here).part (pt_api_Frame_N _)) ty31 rfl) <| call [] [(100, 6)] rfl Try.func31 rfl rfl (wire_Number_ok _) (aQ rfl <| aN) rN fun r50 n51 => lBind fun x52 h53 => Ef rfl (apn 2 rfl rfl rfl (.own 6 rfl) h53 Try.underlying32 ti5 rfl rfl rfl) fun v54 => R rfl (asg rfl) <| gNil <| eBlk <| eMid (fun aa ww h => ⟨nvl [v54], h.sub [2] (sS rfl <| sS rfl <| sN) (rR rfl rfl <| rN)⟩)
          · skip
            refine gSkip <| eBlk <| eMid (fun aa ww h => ⟨nvl [v2], h.sub [2] (sS rfl <| sS rfl <| sN) (rR rfl rfl <| rN)⟩)
  · skip
    refine gEx fun n55 => gSeq <| gReg <| R rfl (mv rfl) <| R rfl (mv rfl) <| R rfl (mv rfl) <| lSplit 127 rfl (fun h56 => ?_) (fun h56 => ?_)
    · skip
      refine lKn 5 rfl h56 <| lKn 126 rfl h56 <| lRun (gd rfl rfl rfl rfl) rfl rfl (mv rfl) <| lRun (gd rfl rfl rfl rfl) rfl rfl (len' rfl (.own 2 rfl) rfl Try.underlying32) <| lRun (gd rfl rfl rfl rfl) rfl rfl (I.leq rfl rfl) <| R rfl (pkT rfl rfl) <| R rfl (asg rfl) <| R rfl (asg rfl) <| lName 3 rfl fun y57 => gNil <| eThen <| gRet <| eRet [(n55 0)] [2] rfl (eE rfl <| eE rfl <| eN) (rR rfl rfl <| rN)
    · skip
      refine lKn 5 rfl h56 <| lKn 126 rfl h56 <| lSkip (gd rfl rfl rfl rfl) rfl rfl <| lSkip (gd rfl rfl rfl rfl) rfl rfl <| lSkip (gd rfl rfl rfl rfl) rfl rfl <| R rfl (pkF rfl rfl) <| R rfl (asg rfl) <| R rfl (asg rfl) <| gNil <| eThen <| gRet <| eRet [(n55 0)] [2] rfl (eE rfl <| eE rfl <| eN) (rR rfl rfl <| rN)
def frame_Check (a0 : api_Frame) : Option (Int) :=
  frame_write a0 >>= fun r2 =>
  if !r2.2 then
    some 8
  else
    some 0
set_option maxRecDepth 100000 in
theorem frame_Check_ok (a0 : api_Frame) : Spec Try.prog 76 [.rd R_api_Frame a0] [] (frame_Check a0) (fun r nv => ⟨[.rd i64R r], []⟩) := by
  refine spec 12 Try.func76 rfl rfl rfl fun H w => ?_
  refine gSeq <| gReg <| Eb rfl (bx 1 rfl) fun v1 => R rfl (asg rfl) <| gNil <| eThen <| gSeq <| gSeq <| gReg <| R rfl (ld 1 rfl rfl Foc.here ty105 rfl) <| call [] [(100, 2)] rfl Try.func119 rfl rfl (frame_write_ok _) (aQ rfl <| aN) rN fun r2 n3 => R rfl (mv rfl) <| R rfl (ext rfl rfl) <| R rfl (ext rfl rfl) <| R rfl (asg rfl) <| R rfl (asg rfl) <| gNil <| eThen <| gSeq <| gReg <| R rfl (mv rfl) <| R rfl (not' rfl) <| gNil <| eThen <| gIf rfl rfl (fun h4 => ?_) (fun h4 => ?_)
  · skip
    refine gSeq <| gReg <| R rfl (asg rfl) <| gNil <| eThen <| gRet <| eTret <| eRet [] [] rfl (eE rfl <| eN) (rN)
  · skip
    refine gSkip <| eThen <| gSeq <| gReg <| R rfl (asg rfl) <| gNil <| eThen <| gRet <| eRet [] [] rfl (eE rfl <| eN) (rN)
def slices_Clone_api_ID_api_ID (a0 : List (Vector UInt8 32)) : Option ((List (Vector UInt8 32))) :=
  app 32 ([] : List (Vector UInt8 32)) a0 >>= fun x3 =>
  some x3
set_option maxRecDepth 100000 in
theorem slices_Clone_api_ID_api_ID_ok (a0 : List (Vector UInt8 32)) : Spec Try.prog 124 [.rd (sliceR (arrR 32 u8R)) a0] [] (slices_Clone_api_ID_api_ID a0) (fun r nv => ⟨[.val (nv 0)], [(100, some (nv 0, .list (arrR 32 u8R) 102 r))]⟩) := by
  refine spec 8 Try.func124 rfl rfl rfl fun H w => ?_
  refine gSeq <| gReg <| R rfl (asg rfl) <| gNil <| eThen <| gSeq <| gSeq <| gReg <| R rfl (mv rfl) <| lNilE rfl rfl .rd rfl Try.underlying83 (fun h1 => ?_) ?_
  · skip
    subst h1
    refine gNil <| eThen <| gTrue rfl <| gSeq <| gReg <| R rfl (asg rfl) <| gNil <| eThen <| gRet <| eTret <| eNew (arrR 32 u8R) 102 1 <| eRet [(.slice none 0 0)] [1] rfl (eE rfl <| eN) (rR rfl rfl <| rN)
  · skip
    refine gNil <| eThen <| gFalse rfl <| gSkip <| eThen <| gSeq <| gReg <| Ef rfl (lit (R := (arrR 32 u8R)) (([] : List (Vector UInt8 32)) : List (Vector UInt8 32)) 2 (pN) rfl Try.underlying83 ti102 rfl rfl) fun v2 => R rfl (mv rfl) <| lBind fun x3 h4 => Ef rfl (apn 2 rfl rfl rfl .rd h4 Try.underlying83 ti102 rfl rfl rfl) fun v5 => R rfl (asg rfl) <| gNil <| eThen <| gRet <| eRet [v5] [2] rfl (eE rfl <| eN) (rR rfl rfl <| rN)
def bytes_Clone (a0 : List UInt8) : Option ((List UInt8)) :=
  app 1 ([] : List UInt8) a0 >>= fun x3 =>
  some x3
set_option maxRecDepth 100000 in
theorem bytes_Clone_ok (a0 : List UInt8) : Spec Try.prog 108 [.rd (sliceR u8R) a0] [] (bytes_Clone a0) (fun r nv => ⟨[.val (nv 0)], [(100, some (nv 0, .list u8R 5 r))]⟩) := by
  refine spec 8 Try.func108 rfl rfl rfl fun H w => ?_
  refine gSeq <| gReg <| R rfl (asg rfl) <| gNil <| eThen <| gSeq <| gSeq <| gReg <| R rfl (mv rfl) <| lNilE rfl rfl .rd rfl Try.underlying32 (fun h1 => ?_) ?_
  · skip
    subst h1
    refine gNil <| eThen <| gTrue rfl <| gSeq <| gReg <| R rfl (asg rfl) <| gNil <| eThen <| gRet <| eTret <| eNew u8R 5 1 <| eRet [(.slice none 0 0)] [1] rfl (eE rfl <| eN) (rR rfl rfl <| rN)
  · skip
    refine gNil <| eThen <| gFalse rfl <| gSkip <| eThen <| gSeq <| gReg <| Ef rfl (lit (R := u8R) (([] : List UInt8) : List UInt8) 2 (pN) rfl Try.underlying32 ti5 rfl rfl) fun v2 => R rfl (mv rfl) <| lBind fun x3 h4 => Ef rfl (apn 2 rfl rfl rfl .rd h4 Try.underlying32 ti5 rfl rfl rfl) fun v5 => R rfl (asg rfl) <| gNil <| eThen <| gRet <| eRet [v5] [2] rfl (eE rfl <| eN) (rR rfl rfl <| rN)
def braidref07_Listed (a0 : UInt8) : Option (Bool) :=
  if a0 == 2 then
    some true
  else
    if a0 == 3 then
      some true
    else
      some (a0 == 4)
def braidref01_Cmp_L0 (a0 : Vector UInt8 32) (a1 : Vector UInt8 32) (s4 : Int) : Option (Sum (Sum Int Unit) Int) :=
  if decide (s4 < 32) then
    vidx a0 s4 >>= fun x6 =>
    vidx a1 s4 >>= fun x8 =>
    if decide (x6 < x8) then
      some (.inl (.inl (-1)))
    else
      vidx a0 s4 >>= fun x11 =>
      vidx a1 s4 >>= fun x13 =>
      if decide (x13 < x11) then
        some (.inl (.inl 1))
      else
        some (.inr (w64 (s4 + 1)))
  else
    some (.inl (.inr ()))
def braidref01_Cmp (a0 : Vector UInt8 32) (a1 : Vector UInt8 32) : Option (Int) :=
  orRet (iter (braidref01_Cmp_L0 a0 a1) 0) fun s3 =>
  some 0
def braidref04_Rising_L0 (a0 : List (Vector UInt8 32)) (s2 : Int) : Option (Sum (Sum Bool Unit) Int) :=
  if decide (s2 < (a0.length : Int)) then
    idx a0 (w64 (s2 - 1)) >>= fun x4 =>
    idx a0 s2 >>= fun x6 =>
    braidref01_Cmp x4 x6 >>= fun r8 =>
    if decide (0 ≤ r8) then
      some (.inl (.inl false))
    else
      some (.inr (w64 (s2 + 1)))
  else
    some (.inl (.inr ()))
def braidref04_Rising (a0 : List (Vector UInt8 32)) : Option (Bool) :=
  orRet (iter (braidref04_Rising_L0 a0) 1) fun s1 =>
  some true
end Go.Proofs.Ytklfgpdfongaeaa
namespace Go.Proofs.Ytklfgpdfongaeaa
open Go
set_option linter.unusedSimpArgs false
set_option linter.unusedVariables false
theorem wireNum_L0 (a : UInt64) (k : Nat) (hk : k = (digits a.toNat).length) (hk8 : k ≤ 8) : iter (wire_Number_L0 a (k : Int)) (fillNum a.toNat 0, 0) = some (fillNum a.toNat k) := by
  refine iter_run k (fun i => (fillNum a.toNat i, (i : Int))) (fun i hi => ?_) ?_
  · have hf := fillNum_len a.toNat i (by omega)
    unfold wire_Number_L0
    rw [if_pos (by simp; omega)]
    simp only [w64_eq (show -9223372036854775808 ≤ 8 * (i : Int) by omega) (by omega), chk_true (show (0 : Int) ≤ 8 * (i : Int) by omega), bs, w64_eq (show -9223372036854775808 ≤ (k : Int) - (i : Int) by omega) (by omega), w64_nat (show i < 9223372036854775807 by omega)]
    rw [idx_int (by omega) (by omega)]
    simp only [bs]
    have := fillNum_step a.toNat i (by omega)
    rw [← this]
    have e1 : ((k : Int) - (i : Int)).toNat = (digits a.toNat).length - i := by omega
    have e2 : (shr64 a (8 * (i : Int)).toNat).toUInt8 = UInt8.ofNat (a.toNat / 2 ^ (8 * i)) := by
      apply UInt8.toNat_inj.1
      have e3 : (8 * (i : Int)).toNat = 8 * i := by omega
      rw [e3]
      simp only [UInt64.toNat_toUInt8, shr64_toNat, Nat.min_eq_left (show 8 * i ≤ 64 by omega)]
      simp
    rw [e1, e2]
  · unfold wire_Number_L0
    rw [if_neg (by simp)]
theorem shr_step (a : UInt64) (k : Nat) (hk : k < 64) : (shr64 a k).toNat = a.toNat / 2 ^ k := by rw [shr64_toNat, Nat.min_eq_left (by omega)]
set_option maxRecDepth 100000 in
theorem len64_eq (a : UInt64) : math_bits_Len64 a = some (bitLen a.toNat : Int) := by
  unfold math_bits_Len64
  have h0 := UInt64.toNat_lt a
  have s1 : ∃ (y : UInt64) (n : Nat), (if decide (4294967296 ≤ a) then some (shr64 a 32, (32 : Int)) else some (a, 0)) = some (y, (n : Int)) ∧ y.toNat < 2 ^ 32 ∧ n ≤ 32 ∧ bitLen a.toNat = n + bitLen y.toNat := by
    by_cases h : 4294967296 ≤ a.toNat
    · refine ⟨shr64 a 32, 32, by rw [if_pos (by simpa [UInt64.le_iff_toNat_le] using h)]; rfl, ?_, by omega, ?_⟩
      · rw [shr_step a 32 (by omega)]; omega
      · rw [shr_step a 32 (by omega)]; exact bitLen_shift _ 32 (by omega)
    · exact ⟨a, 0, by rw [if_neg (by simpa [UInt64.le_iff_toNat_le] using h)]; rfl, by omega, by omega, by omega⟩
  obtain ⟨y, n, e1, hy, hn, hb⟩ := s1
  rw [e1]; simp only [bs]
  have s2 : ∃ (z : UInt64) (k : Nat), (if decide (65536 ≤ y) then some (shr64 y 16) >>= fun y5 => some (w64 ((n : Int) + 16)) >>= fun y6 => some (y5, y6) else some (y, (n : Int))) = some (z, (k : Int)) ∧ z.toNat < 2 ^ 16 ∧ k ≤ 48 ∧ bitLen a.toNat = k + bitLen z.toNat := by
    by_cases h : 65536 ≤ y.toNat
    · refine ⟨shr64 y 16, n + 16, by rw [if_pos (by simpa [UInt64.le_iff_toNat_le] using h)]; simp only [bs, w64_eq (show -9223372036854775808 ≤ (n : Int) + 16 by omega) (by omega)]; rfl, ?_, by omega, ?_⟩
      · rw [shr_step y 16 (by omega)]; omega
      · rw [shr_step y 16 (by omega), hb, bitLen_shift y.toNat 16 (by omega)]; omega
    · exact ⟨y, n, by rw [if_neg (by simpa [UInt64.le_iff_toNat_le] using h)], by omega, by omega, hb⟩
  obtain ⟨z, k, e2, hz, hk, hb2⟩ := s2
  simp only [bs] at e2
  rw [e2]; simp only [bs]
  have s3 : ∃ (x : UInt64) (j : Nat), (if decide (256 ≤ z) then some (w64 ((k : Int) + 8)) >>= fun y9 => some (shr64 z 8, y9) else some (z, (k : Int))) = some (x, (j : Int)) ∧ x.toNat < 256 ∧ j ≤ 56 ∧ bitLen a.toNat = j + bitLen x.toNat := by
    by_cases h : 256 ≤ z.toNat
    · refine ⟨shr64 z 8, k + 8, by rw [if_pos (by simpa [UInt64.le_iff_toNat_le] using h)]; simp only [bs, w64_eq (show -9223372036854775808 ≤ (k : Int) + 8 by omega) (by omega)]; rfl, ?_, by omega, ?_⟩
      · rw [shr_step z 8 (by omega)]; omega
      · rw [shr_step z 8 (by omega), hb2, bitLen_shift z.toNat 8 (by omega)]; omega
    · exact ⟨z, k, by rw [if_neg (by simpa [UInt64.le_iff_toNat_le] using h)], by omega, by omega, hb2⟩
  obtain ⟨x, j, e3, hx, hj, hb3⟩ := s3
  simp only [bs] at e3
  rw [e3]; simp only [bs]
  have ht := len8_all ⟨x.toNat, hx⟩
  have hx8 : (x.toUInt8.toNat : Int) = ((x.toNat : Nat) : Int) := by simp; omega
  have hle : bitLen x.toNat ≤ 8 := bitLen_le _ 8 (by omega)
  rw [hx8]
  have hlist : ∀ (l : List UInt8), l = len8tab.data.toList → idx l ((x.toNat : Nat) : Int) = some (UInt8.ofNat (bitLen x.toNat)) := fun l hl => by
    subst hl
    unfold idx
    rw [if_pos (by omega)]
    simpa using ht
  refine Eq.trans (congrArg (fun o : Option UInt8 => o >>= fun x10 => some (w64 ((j : Int) + (x10.toNat : Int)))) (hlist _ ?hh)) ?_
  case hh => rfl
  simp only [bs]
  have e4 : ((UInt8.ofNat (bitLen x.toNat)).toNat : Int) = (bitLen x.toNat : Int) := by simp; omega
  rw [e4, w64_eq (by omega) (by omega), hb3]
  simp
theorem wireNumber_eq (a : UInt64) : wire_Number a = some (numBytes a.toNat) := by
  unfold wire_Number
  have h0 := UInt64.toNat_lt a
  by_cases h : a.toNat ≤ 247
  · have h' : decide (a ≤ 247) = true := by simpa [UInt64.le_iff_toNat_le] using h
    unfold numBytes
    rw [if_pos h', if_pos h]
    congr 2
  · have h' : ¬ decide (a ≤ 247) = true := by simpa [UInt64.le_iff_toNat_le] using h
    rw [if_neg h', len64_eq]
    have hd := digits_le a.toNat h0
    have hl := digits_len a.toNat
    have hb : bitLen a.toNat ≤ 64 := bitLen_le _ 64 h0
    simp only [bs]
    rw [w64_eq (show -9223372036854775808 ≤ (bitLen a.toNat : Int) + 7 by omega) (by omega)]
    have e1 : Int.tdiv ((bitLen a.toNat : Int) + 7) 8 = ((digits a.toNat).length : Int) := by
      rw [hl, show ((bitLen a.toNat : Int) + 7) = ((bitLen a.toNat + 7 : Nat) : Int) by omega]
      rfl
    rw [e1, w64_eq (show -9223372036854775808 ≤ ((digits a.toNat).length : Int) by omega) (by omega), w64_nat (by omega), mkn_eq (by omega) (by omega)]
    simp only [bs]
    rw [show (0 : Int) = ((0 : Nat) : Int) from rfl, idx_nat (by simp)]
    simp only [bs, Int.toNat_natCast]
    rw [w64_eq (show -9223372036854775808 ≤ 247 + ((digits a.toNat).length : Int) by omega) (by omega)]
    have e2 : UInt8.ofInt (247 + ((digits a.toNat).length : Int)) = UInt8.ofNat (247 + (digits a.toNat).length) := by
      apply UInt8.toNat_inj.1
      rw [show (247 + ((digits a.toNat).length : Int)) = ((247 + (digits a.toNat).length : Nat) : Int) by omega]
      simp [UInt8.ofInt]
      omega
    have := fillNum_zero a.toNat
    rw [e2, this]
    have := wireNum_L0 a (digits a.toNat).length rfl hd
    rw [show (0 : Int) = ((0 : Nat) : Int) from rfl] at this
    rw [this]
    simp only [bs]
    rw [fillNum_last a.toNat (by omega)]
end Go.Proofs.Ytklfgpdfongaeaa
namespace Go.Proofs.Ytklfgpdfongaeaa
open Go
set_option linter.unusedSimpArgs false
set_option linter.unusedVariables false
def okF (f : api_Frame) : Prop := f.IDs.length ≤ 100 ∧ f.Ops.length ≤ 20 ∧ ∀ b ∈ f.Ops, b.length ≤ 3000
theorem listed_eq (k : UInt8) : frame_listed k = braidref07_Listed k := by
  have h : ∀ i : Fin 256, frame_listed (UInt8.ofNat i.val) = braidref07_Listed (UInt8.ofNat i.val) := by decide +kernel
  have := h ⟨k.toNat, UInt8.toNat_lt k⟩
  simpa using this
theorem cmp_from (a b : Vector UInt8 32) : ∀ (n i : Nat), 32 - i = n → i ≤ 32 → ∃ r : Sum Int Unit, iter (braidref01_Cmp_L0 a b) (i : Int) = some r ∧ (orRet (some r) (fun _ => some 0) = some (Lib.compareBytes (a.toList.drop i) (b.toList.drop i))) := by
  intro n
  induction n with
  | zero =>
    intro i hn hi
    have : i = 32 := by omega
    subst this
    refine ⟨.inr (), iter_l ?_, ?_⟩
    · unfold braidref01_Cmp_L0; rw [if_neg (by simp)]
    · rw [List.drop_eq_nil_of_le (by simp), List.drop_eq_nil_of_le (by simp)]; rfl
  | succ n ih =>
    intro i hn hi
    have hlt : i < 32 := by omega
    have da : a.toList.drop i = a[i] :: a.toList.drop (i + 1) := by rw [List.drop_eq_getElem_cons (by simpa using hlt)]; simp
    have db : b.toList.drop i = b[i] :: b.toList.drop (i + 1) := by rw [List.drop_eq_getElem_cons (by simpa using hlt)]; simp
    have hF : braidref01_Cmp_L0 a b (i : Int) = if decide (a[i] < b[i]) then some (.inl (.inl (-1))) else if decide (b[i] < a[i]) then some (.inl (.inl 1)) else some (.inr ((i + 1 : Nat) : Int)) := by
      unfold braidref01_Cmp_L0
      rw [if_pos (by simp; omega)]
      simp only [vidx_nat hlt, bs, w64_nat (show i < 9223372036854775807 by omega)]
    rw [da, db, Lib.compareBytes]
    by_cases h1 : a[i] < b[i]
    · rw [decide_eq_true h1] at hF
      exact ⟨_, iter_l hF, by rw [if_pos h1]; rfl⟩
    · rw [decide_eq_false h1] at hF
      by_cases h2 : b[i] < a[i]
      · rw [decide_eq_true h2] at hF
        exact ⟨_, iter_l hF, by rw [if_neg h1, if_pos h2]; rfl⟩
      · rw [decide_eq_false h2] at hF
        obtain ⟨r, k1, k2⟩ := ih (i + 1) (by omega) (by omega)
        exact ⟨r, by rw [iter_r hF]; exact k1, by rw [if_neg h1, if_neg h2]; exact k2⟩
theorem refCmp_eq (a b : Vector UInt8 32) : braidref01_Cmp a b = some (Lib.compareBytes a.toList b.toList) := by
  obtain ⟨r, h1, h2⟩ := cmp_from a b 32 0 rfl (by omega)
  unfold braidref01_Cmp
  rw [show (0 : Int) = ((0 : Nat) : Int) from rfl, h1]
  simpa using h2
theorem cmp_eq7 (a b : Vector UInt8 32) : digest_Cmp a b = some (Lib.compareBytes a.toList b.toList) := by
  unfold digest_Cmp bytes_Compare; rfl
theorem rising_eq (l : List (Vector UInt8 32)) : frame_rising l = braidref04_Rising l := by
  have : frame_rising_L0 l = braidref04_Rising_L0 l := by
    funext s
    unfold frame_rising_L0 braidref04_Rising_L0
    simp only [refCmp_eq, cmp_eq7]
  unfold frame_rising braidref04_Rising
  rw [this]
def incr : List (Vector UInt8 32) → Bool
  | a :: b :: l => !decide (0 ≤ Lib.compareBytes a.toList b.toList) && incr (b :: l)
  | _ => true
theorem rising_from (l : List (Vector UInt8 32)) (hl : l.length ≤ 9223372036854775807) : ∀ (n i : Nat), l.length - i = n → 1 ≤ i → i ≤ l.length → iter (braidref04_Rising_L0 l) (i : Int) = some (if incr (l.drop (i - 1)) then .inr () else .inl false) := by
  intro n
  induction n with
  | zero =>
    intro i hn h1 hi
    have : i = l.length := by omega
    refine iter_l ?_
    have e : l.drop (i - 1) = [l[i - 1]'(by omega)] := by
      rw [List.drop_eq_getElem_cons (by omega), List.drop_eq_nil_of_le (by omega)]
    rw [e]
    unfold braidref04_Rising_L0
    rw [if_neg (by simp; omega)]
    simp [incr]
  | succ n ih =>
    intro i hn h1 hi
    have hlt : i < l.length := by omega
    have e : l.drop (i - 1) = l[i - 1] :: l[i] :: l.drop (i + 1) := by
      rw [List.drop_eq_getElem_cons (by omega), show i - 1 + 1 = i by omega, List.drop_eq_getElem_cons hlt]
    have e' : l.drop (i + 1 - 1) = l[i] :: l.drop (i + 1) := by rw [Nat.add_sub_cancel, List.drop_eq_getElem_cons hlt]
    have hF : braidref04_Rising_L0 l (i : Int) = if decide (0 ≤ Lib.compareBytes (l[i - 1]).toList (l[i]).toList) then some (.inl (.inl false)) else some (.inr ((i + 1 : Nat) : Int)) := by
      unfold braidref04_Rising_L0
      rw [if_pos (by simp; omega), w64_eq (by omega) (by omega), show ((i : Int) - 1) = ((i - 1 : Nat) : Int) by omega]
      simp only [idx_nat hlt, idx_nat (show i - 1 < l.length by omega), bs, refCmp_eq, w64_nat (show i < 9223372036854775807 by omega)]
    rw [e, incr]
    cases hc : decide (0 ≤ Lib.compareBytes (l[i - 1]).toList (l[i]).toList) with
    | true => rw [hc] at hF; rw [iter_l hF]; rfl
    | false =>
      rw [hc] at hF
      rw [iter_r hF, ih (i + 1) (by omega) (by omega) (by omega), e']; simp
theorem Rising_eq (l : List (Vector UInt8 32)) (hl : l.length ≤ 9223372036854775807) : braidref04_Rising l = some (incr l) := by
  unfold braidref04_Rising
  cases l with
  | nil =>
    rw [iter_l (b := .inr ()) (by unfold braidref04_Rising_L0; rw [if_neg (by simp)])]; rfl
  | cons x l =>
    have := rising_from (x :: l) hl _ 1 rfl (by omega) (by simp)
    rw [show (1 : Int) = ((1 : Nat) : Int) from rfl, this]
    simp only [Nat.sub_self, List.drop_zero]
    cases incr (x :: l) <;> rfl
theorem wrising_from (l : List (Vector UInt8 32)) (hl : l.length ≤ 9223372036854775806) : ∀ (n i : Nat), l.length - i = n → i ≤ l.length → ∃ r, iter (slices_IndexFunc_api_ID_api_ID_wire_rising_1_L0 l l) ((i : Int), (i : Int)) = some r ∧ (incr (l.drop i) = true → ∃ c, r = .inr c) ∧ (incr (l.drop i) = false → ∃ (k : Nat) (c : Int), r = .inl ((k : Int), c)) := by
  intro n
  induction n with
  | zero =>
    intro i hn hi
    have : i = l.length := by omega
    refine ⟨.inr (i : Int), iter_l ?_, fun _ => ⟨_, rfl⟩, fun h => ?_⟩
    · unfold slices_IndexFunc_api_ID_api_ID_wire_rising_1_L0
      rw [if_neg (by simp; omega)]
    · rw [List.drop_eq_nil_of_le (by omega)] at h; simp [incr] at h
  | succ n ih =>
    intro i hn hi
    have hlt : i < l.length := by omega
    by_cases h2 : i + 1 < l.length
    · have e : l.drop i = l[i] :: l[i + 1] :: l.drop (i + 2) := by rw [List.drop_eq_getElem_cons hlt, List.drop_eq_getElem_cons h2]
      have e' : l.drop (i + 1) = l[i + 1] :: l.drop (i + 2) := by rw [List.drop_eq_getElem_cons h2]
      have hF : slices_IndexFunc_api_ID_api_ID_wire_rising_1_L0 l l ((i : Int), (i : Int)) = if decide (0 ≤ Lib.compareBytes (l[i]).toList (l[i + 1]).toList) then some (.inl (.inl ((i : Int), ((i + 1 : Nat) : Int)))) else some (.inr (((i + 1 : Nat) : Int), ((i + 1 : Nat) : Int))) := by
        unfold slices_IndexFunc_api_ID_api_ID_wire_rising_1_L0 wire_rising_1
        rw [if_pos (by simp; omega)]
        simp only [idx_nat hlt, bs, w64_nat (show i < 9223372036854775807 by omega)]
        rw [if_pos (by simp; omega), w64_eq (by omega) (by omega), show ((i + 1 : Nat) : Int) - 1 = (i : Int) by omega]
        simp only [idx_nat hlt, idx_nat h2, bs, cmp_eq7]
      rw [e, incr]
      cases hc : decide (0 ≤ Lib.compareBytes (l[i]).toList (l[i + 1]).toList) with
      | true =>
        rw [hc] at hF
        exact ⟨_, iter_l hF, fun h => by simp at h, fun _ => ⟨i, _, rfl⟩⟩
      | false =>
        rw [hc] at hF
        obtain ⟨r, k1, k2, k3⟩ := ih (i + 1) (by omega) (by omega)
        rw [e'] at k2 k3
        exact ⟨r, by rw [iter_r hF]; exact k1, fun h => k2 (by simpa using h), fun h => k3 (by simpa using h)⟩
    · have e : l.drop i = [l[i]] := by rw [List.drop_eq_getElem_cons hlt, List.drop_eq_nil_of_le (by omega)]
      have hF : slices_IndexFunc_api_ID_api_ID_wire_rising_1_L0 l l ((i : Int), (i : Int)) = some (.inr (((i + 1 : Nat) : Int), ((i + 1 : Nat) : Int))) := by
        unfold slices_IndexFunc_api_ID_api_ID_wire_rising_1_L0 wire_rising_1
        rw [if_pos (by simp; omega)]
        simp only [idx_nat hlt, bs, w64_nat (show i < 9223372036854775807 by omega)]
        rw [if_neg (by simp; omega)]
        simp only [bs]; rfl
      obtain ⟨r, k1, k2, k3⟩ := ih (i + 1) (by omega) (by omega)
      rw [List.drop_eq_nil_of_le (by omega)] at k2 k3
      exact ⟨r, by rw [iter_r hF]; exact k1, fun _ => k2 rfl, fun h => by rw [e] at h; simp [incr] at h⟩
theorem wrising_eq (l : List (Vector UInt8 32)) (hl : l.length ≤ 9223372036854775806) : wire_rising l = some (incr l) := by
  obtain ⟨r, k1, k2, k3⟩ := wrising_from l hl _ 0 rfl (by omega)
  unfold wire_rising slices_ContainsFunc_api_ID_api_ID_wire_rising_1 slices_IndexFunc_api_ID_api_ID_wire_rising_1
  rw [show ((0 : Int), (0 : Int)) = (((0 : Nat) : Int), ((0 : Nat) : Int)) from rfl, k1]
  simp only [List.drop_zero] at k2 k3
  cases h : incr l with
  | true => obtain ⟨c, rfl⟩ := k2 h; rfl
  | false =>
    obtain ⟨k, c, rfl⟩ := k3 h
    simp only [or_l, bs]
    rw [decide_eq_true (by omega)]; rfl
def idsL (l : List (Vector UInt8 32)) : List UInt8 := l.flatMap Vector.toList
theorem idsL_len (l : List (Vector UInt8 32)) : (idsL l).length = 32 * l.length := by
  induction l with
  | nil => rfl
  | cons x l ih => unfold idsL at ih ⊢; rw [List.flatMap_cons, List.length_append, ih]; simp; omega
theorem idsL_take (l : List (Vector UInt8 32)) (i : Nat) (hi : i < l.length) : idsL (l.take (i + 1)) = idsL (l.take i) ++ (l[i]).toList := by
  rw [List.take_add_one, List.getElem?_eq_getElem hi]; unfold idsL; rw [List.flatMap_append, Option.toList_some, List.flatMap_cons, List.flatMap_nil, List.append_nil]
theorem ids_L0 (l : List (Vector UInt8 32)) (h : l.length ≤ 1000) (s : List UInt8) (hs : s.length ≤ 9) : iter (wire_IDs_L0 l) (s, 0) = some (s ++ idsL l) := by
  have := iter_run (F := wire_IDs_L0 l) (b := s ++ idsL l) l.length (fun i => (s ++ idsL (l.take i), (i : Int))) (fun i hi => ?_) ?_
  · simpa [idsL] using this
  · unfold wire_IDs_L0
    have hf := idsL_len (l.take i)
    rw [if_pos (by simp; omega)]
    simp only [idx_nat hi, bs]
    rw [app_eq (by simp at hf ⊢; omega)]
    simp only [bs, w64_nat (show i < 9223372036854775807 by omega), idsL_take l i hi, List.append_assoc]
  · unfold wire_IDs_L0
    rw [if_neg (by simp)]
    simp
theorem ofInt_len {n : Nat} (h : n < 18446744073709551616) : (UInt64.ofInt (n : Int)).toNat = n := by
  simp [UInt64.ofInt]; omega
theorem bytes_eq7 (b : List UInt8) (h : b.length ≤ 3000) : wire_Bytes b = some (numBytes b.length ++ b, 0) := by
  unfold wire_Bytes
  have hn := numBytes_len b.length (by omega)
  rw [if_neg (by simp; omega), wireNumber_eq, ofInt_len (by omega)]
  simp only [bs]
  rw [app_eq (by omega)]; rfl
theorem ids_eq7 (l : List (Vector UInt8 32)) (h : l.length ≤ 60) (hi : incr l = true) : wire_IDs l = some (numBytes l.length ++ idsL l, 0) := by
  unfold wire_IDs
  have hn := numBytes_len l.length (by omega)
  rw [if_neg (by simp; omega), wrising_eq l (by omega), hi, wireNumber_eq, ofInt_len (by omega)]
  simp only [bs, Bool.not_true, Bool.false_eq_true, if_false]
  rw [ids_L0 l (by omega) _ (by omega)]; rfl
def opsL (l : List (List UInt8)) : List UInt8 := l.flatMap fun b => numBytes b.length ++ b
def short (b : List UInt8) : Bool := decide ((b.length : Int) ≤ 400)
theorem write_L1 (f : api_Frame) (h : okF f) : ∀ (rest pre : List (List UInt8)), f.Ops = pre ++ rest → ∀ out : List UInt8, out.length ≤ 10 + pre.length * 3010 →
    ∃ o, iter (frame_write_L1 f) (out, true, (pre.length : Int)) = some (o, rest.all short) ∧ (rest.all short = true → o = out ++ opsL rest)
  | [], pre, e, out, ho => by
    refine ⟨out, iter_l ?_, fun _ => by simp [opsL]⟩
    unfold frame_write_L1
    rw [if_pos rfl, if_neg (by simp [e])]; rfl
  | b :: rest, pre, e, out, ho => by
    have h20 := h.2.1
    have hlen : pre.length < f.Ops.length := by rw [e]; simp
    have hget : f.Ops[pre.length]'hlen = b := by simp [e]
    have hb : b.length ≤ 3000 := h.2.2 b (by rw [e]; simp)
    have hn := numBytes_len b.length (by omega)
    have hF : frame_write_L1 f (out, true, (pre.length : Int)) = some (.inr (out ++ (numBytes b.length ++ b), short b, ((pre.length + 1 : Nat) : Int))) := by
      unfold frame_write_L1
      rw [if_pos rfl, if_pos (by simp; omega)]
      simp only [idx_nat hlen, hget, bs, bytes_eq7 b hb]
      rw [app_eq (by simp; omega)]
      simp only [bs, w64_nat (show pre.length < 9223372036854775807 by omega)]; rfl
    rw [iter_r hF]
    cases hs : short b with
    | false =>
      refine ⟨out ++ (numBytes b.length ++ b), ?_, fun hh => by simp [hs] at hh⟩
      have : frame_write_L1 f (out ++ (numBytes b.length ++ b), false, ((pre.length + 1 : Nat) : Int)) = some (.inl (out ++ (numBytes b.length ++ b), false)) := by
        unfold frame_write_L1; rw [if_neg (by simp)]
      rw [iter_l this]; simp [hs]
    | true =>
      obtain ⟨o, k1, k2⟩ := write_L1 f h rest (pre ++ [b]) (by simp [e]) (out ++ (numBytes b.length ++ b)) (by simp; omega)
      simp only [List.length_append, List.length_cons, List.length_nil, Nat.zero_add] at k1
      refine ⟨o, by rw [k1]; simp [hs], fun hh => ?_⟩
      rw [k2 (by simpa [hs] using hh)]; simp [opsL]
theorem opsL_cons (b : List UInt8) (l : List (List UInt8)) : opsL (b :: l) = (numBytes b.length ++ b) ++ opsL l := by simp [opsL]
def goodF (f : api_Frame) : Bool :=
  if f.Kind = 2 ∨ f.Kind = 3 ∨ f.Kind = 4 then decide (f.N = 0) && decide (f.Ops = []) && decide (f.IDs.length ≤ 40) && incr f.IDs
  else if f.Kind = 5 then decide (f.N = 0) && decide (f.IDs = []) && decide (f.Ops.length ≤ 8) && f.Ops.all short && decide (1 + (numBytes f.Ops.length).length + (opsL f.Ops).length ≤ 2000)
  else if f.Kind = 1 ∨ f.Kind = 6 then decide (f.IDs = []) && decide (f.Ops = [])
  else false
theorem frising_eq (l : List (Vector UInt8 32)) (hl : l.length ≤ 9223372036854775807) : frame_rising l = some (incr l) := by rw [rising_eq, Rising_eq l hl]
theorem len0 {α : Type} (l : List α) : (((l.length : Int) == 0) = true) ↔ l = [] := by simp
def encF (f : api_Frame) : List UInt8 :=
  f.Kind :: (if f.Kind = 2 ∨ f.Kind = 3 ∨ f.Kind = 4 then numBytes f.IDs.length ++ idsL f.IDs else if f.Kind = 5 then numBytes f.Ops.length ++ opsL f.Ops else numBytes f.N.toNat)
theorem goodF_l {f : api_Frame} (hk : f.Kind = 2 ∨ f.Kind = 3 ∨ f.Kind = 4) : goodF f = (decide (f.N = 0) && decide (f.Ops = []) && decide (f.IDs.length ≤ 40) && incr f.IDs) := by
  unfold goodF; rw [if_pos hk]
theorem encF_l {f : api_Frame} (hk : f.Kind = 2 ∨ f.Kind = 3 ∨ f.Kind = 4) : encF f = f.Kind :: (numBytes f.IDs.length ++ idsL f.IDs) := by
  unfold encF; rw [if_pos hk]
theorem goodF_5 {f : api_Frame} (hk : f.Kind = 5) : goodF f = (decide (f.N = 0) && decide (f.IDs = []) && decide (f.Ops.length ≤ 8) && f.Ops.all short && decide (1 + (numBytes f.Ops.length).length + (opsL f.Ops).length ≤ 2000)) := by
  unfold goodF; rw [if_neg (by rw [hk]; decide), if_pos hk]
theorem encF_5 {f : api_Frame} (hk : f.Kind = 5) : encF f = f.Kind :: (numBytes f.Ops.length ++ opsL f.Ops) := by
  unfold encF; rw [if_neg (by rw [hk]; decide), if_pos hk]
theorem goodF_n {f : api_Frame} (hk : f.Kind = 1 ∨ f.Kind = 6) : goodF f = (decide (f.IDs = []) && decide (f.Ops = [])) := by
  unfold goodF; rw [if_neg (by rcases hk with e | e <;> rw [e] <;> decide), if_neg (by rcases hk with e | e <;> rw [e] <;> decide), if_pos hk]
theorem encF_n {f : api_Frame} (hk : f.Kind = 1 ∨ f.Kind = 6) : encF f = f.Kind :: numBytes f.N.toNat := by
  unfold encF; rw [if_neg (by rcases hk with e | e <;> rw [e] <;> decide), if_neg (by rcases hk with e | e <;> rw [e] <;> decide)]
theorem kinds (k : UInt8) : (k = 2 ∨ k = 3 ∨ k = 4) ∨ k = 5 ∨ (k = 1 ∨ k = 6) ∨ (¬ (k = 2 ∨ k = 3 ∨ k = 4) ∧ k ≠ 5 ∧ ¬ (k = 1 ∨ k = 6)) := by
  by_cases h1 : k = 2 ∨ k = 3 ∨ k = 4
  · exact .inl h1
  · by_cases h2 : k = 5
    · exact .inr (.inl h2)
    · by_cases h3 : k = 1 ∨ k = 6
      · exact .inr (.inr (.inl h3))
      · exact .inr (.inr (.inr ⟨h1, h2, h3⟩))
theorem Listed_eq (k : UInt8) : braidref07_Listed k = some (decide (k = 2 ∨ k = 3 ∨ k = 4)) := by
  unfold braidref07_Listed
  by_cases h1 : k = 2
  · simp [h1]
  · by_cases h2 : k = 3
    · simp [h2]
    · by_cases h3 : k = 4
      · simp [h3]
      · simp [h1, h2, h3]
def FW (f : api_Frame) : Prop := ∃ o, frame_write f = some (o, goodF f) ∧ (goodF f = true → o = encF f)
set_option maxRecDepth 20000 in
theorem fwrite_l (f : api_Frame) (h : okF f) (hk : f.Kind = 2 ∨ f.Kind = 3 ∨ f.Kind = 4) : FW f := by
  obtain ⟨h1, h2, h3⟩ := h
  have hl : frame_listed f.Kind = some true := by rw [listed_eq, Listed_eq, decide_eq_true hk]
  unfold FW
  rw [goodF_l hk, encF_l hk]
  unfold frame_write
  rw [hl, frising_eq _ (by omega)]
  have hb : (if (f.N == 0) = true then if ((f.Ops.length : Int) == 0) = true then if decide ((f.IDs.length : Int) ≤ 40) = true then some (incr f.IDs) >>= fun r11 => some r11 else some false else some false else some false : Option Bool) = some (decide (f.N = 0) && decide (f.Ops = []) && decide (f.IDs.length ≤ 40) && incr f.IDs) := by
    by_cases hN : f.N = 0
    · by_cases hO : f.Ops = []
      · by_cases hI : f.IDs.length ≤ 40
        · have hI' : (f.IDs.length : Int) ≤ 40 := by omega
          simp [hN, hO, hI, hI']
        · have hI' : ¬ (f.IDs.length : Int) ≤ 40 := by omega
          simp [hN, hO, hI, hI']
      · have : ¬ ((f.Ops.length : Int) == 0) = true := by rw [len0]; exact hO
        simp [hN, hO, this]
    · simp [hN]
  simp only [bs, if_true]
  simp only [bs] at hb
  rw [hb]
  simp only [bs]
  cases hg : (decide (f.N = 0) && decide (f.Ops = []) && decide (f.IDs.length ≤ 40) && incr f.IDs) with
  | false => exact ⟨_, rfl, fun h => by cases h⟩
  | true =>
    simp only [Bool.and_eq_true, decide_eq_true_eq] at hg
    obtain ⟨⟨⟨g1, g2⟩, g3⟩, g4⟩ := hg
    have hn := numBytes_len f.IDs.length (by omega)
    have hd := idsL_len f.IDs
    simp only [if_true]
    rw [ids_eq7 _ (by omega) g4]
    simp only [bs]
    rw [app_eq (by simp; omega)]
    simp only [bs, if_true]
    rw [decide_eq_true (by simp; omega)]
    exact ⟨_, rfl, fun _ => rfl⟩
set_option maxRecDepth 20000 in
theorem fwrite_5 (f : api_Frame) (h : okF f) (hk : f.Kind = 5) : FW f := by
  have h' := h
  obtain ⟨h1, h2, h3⟩ := h
  have hl : frame_listed f.Kind = some false := by rw [hk]; rfl
  have hk5 : (f.Kind == 5) = true := by simpa using hk
  unfold FW
  rw [goodF_5 hk, encF_5 hk]
  unfold frame_write
  rw [hl]
  simp only [bs, if_true, Bool.false_eq_true, if_false, hk5]
  have hs : ∀ b : Bool, ∃ o, iter (frame_write_L1 f) ([f.Kind] ++ numBytes f.Ops.length, b, 0) = some (o, b && f.Ops.all short) ∧ ((b && f.Ops.all short) = true → o = [f.Kind] ++ numBytes f.Ops.length ++ opsL f.Ops) := fun b => by
    have hn := numBytes_len f.Ops.length (by omega)
    cases b with
    | false =>
      refine ⟨_, iter_l (b := ([f.Kind] ++ numBytes f.Ops.length, false)) ?_, fun h => by simp at h⟩
      unfold frame_write_L1; rw [if_neg (by simp)]
    | true =>
      obtain ⟨o, k1, k2⟩ := write_L1 f h' f.Ops [] rfl ([f.Kind] ++ numBytes f.Ops.length) (by simp; omega)
      exact ⟨o, by simpa using k1, fun hh => k2 (by simpa using hh)⟩
  have hn := numBytes_len f.Ops.length (by omega)
  rw [wireNumber_eq, ofInt_len (by omega)]
  have hb : (if (f.N == 0) = true then if ((f.IDs.length : Int) == 0) = true then some (decide ((f.Ops.length : Int) ≤ 8)) else some false else some false : Option Bool) = some (decide (f.N = 0) && decide (f.IDs = []) && decide (f.Ops.length ≤ 8)) := by
    by_cases hN : f.N = 0
    · by_cases hI : f.IDs = []
      · rw [if_pos (by simpa using hN), if_pos ((len0 _).2 hI), decide_eq_true hN, decide_eq_true hI]
        congr 1
        rw [Bool.eq_iff_iff]; simp; omega
      · rw [if_pos (by simpa using hN), if_neg (by rw [len0]; exact hI), decide_eq_false hI]; simp
    · rw [if_neg (by simpa using hN), decide_eq_false hN]; simp
  rw [hb]
  simp only [bs]
  rw [app_eq (by simp; omega)]
  simp only [bs]
  obtain ⟨o, k1, k2⟩ := hs (decide (f.N = 0) && decide (f.IDs = []) && decide (f.Ops.length ≤ 8))
  rw [k1]
  simp only [bs]
  cases hc : (decide (f.N = 0) && decide (f.IDs = []) && decide (f.Ops.length ≤ 8) && f.Ops.all short) with
  | false => exact ⟨_, rfl, fun h => by simp at h⟩
  | true =>
    rw [k2 hc]
    simp only [if_true, bs, Bool.true_and]
    refine ⟨[f.Kind] ++ numBytes f.Ops.length ++ opsL f.Ops, ?_, fun _ => by simp⟩
    congr 2
    rw [Bool.eq_iff_iff]; simp; omega
set_option maxRecDepth 20000 in
theorem fwrite_n (f : api_Frame) (h : okF f) (hk : f.Kind = 1 ∨ f.Kind = 6) : FW f := by
  have hl : frame_listed f.Kind = some false := by rcases hk with e | e <;> rw [e] <;> rfl
  have hk5 : (f.Kind == 5) = false := by rcases hk with e | e <;> rw [e] <;> rfl
  have hk1 : (if (f.Kind == 1) = true then some true else some (f.Kind == 6) : Option Bool) = some true := by rcases hk with e | e <;> rw [e] <;> rfl
  unfold FW
  rw [goodF_n hk, encF_n hk]
  unfold frame_write
  rw [hl]
  simp only [bs, Bool.false_eq_true, if_false, hk5]
  rw [hk1, wireNumber_eq]
  have hn := numBytes_len f.N.toNat (UInt64.toNat_lt _)
  have hb : (if ((f.IDs.length : Int) == 0) = true then some ((f.Ops.length : Int) == 0) else some false : Option Bool) = some (decide (f.IDs = []) && decide (f.Ops = [])) := by
    by_cases hI : f.IDs = []
    · rw [if_pos ((len0 _).2 hI), decide_eq_true hI]
      congr 1
      rw [Bool.eq_iff_iff, len0]; simp
    · rw [if_neg (by rw [len0]; exact hI), decide_eq_false hI]; simp
  simp only [bs, if_true]
  rw [hb]
  simp only [bs]
  rw [app_eq (by simp; omega)]
  simp only [bs]
  cases hg : (decide (f.IDs = []) && decide (f.Ops = [])) with
  | false => exact ⟨_, rfl, fun h => by cases h⟩
  | true =>
    simp only [if_true]
    rw [decide_eq_true (by simp; omega)]
    exact ⟨_, rfl, fun _ => rfl⟩
theorem fwrite_x (f : api_Frame) (hk : ¬ (f.Kind = 2 ∨ f.Kind = 3 ∨ f.Kind = 4) ∧ f.Kind ≠ 5 ∧ ¬ (f.Kind = 1 ∨ f.Kind = 6)) : FW f := by
  obtain ⟨h1, h2, h3⟩ := hk
  have hl : frame_listed f.Kind = some false := by rw [listed_eq, Listed_eq, decide_eq_false h1]
  have hg : goodF f = false := by unfold goodF; rw [if_neg h1, if_neg h2, if_neg h3]
  have hk5 : (f.Kind == 5) = false := by simpa using h2
  have hk1 : (f.Kind == 1) = false := by simpa using fun h => h3 (.inl h)
  have hk6 : (f.Kind == 6) = false := by simpa using fun h => h3 (.inr h)
  unfold FW
  rw [hg]
  refine ⟨[f.Kind], ?_, fun h => by cases h⟩
  unfold frame_write
  rw [hl, hk5, hk1, hk6]
  rfl
theorem fwrite (f : api_Frame) (h : okF f) : FW f := by
  rcases kinds f.Kind with k | k | k | k
  · exact fwrite_l f h k
  · exact fwrite_5 f h k
  · exact fwrite_n f h k
  · exact fwrite_x f k
theorem fcheck_eq (f : api_Frame) (h : okF f) : frame_Check f = some (if goodF f then 0 else 8) := by
  obtain ⟨o, h1, h2⟩ := fwrite f h
  unfold frame_Check
  rw [h1]
  simp only [bs]
  cases goodF f <;> rfl
end Go.Proofs.Ytklfgpdfongaeaa
namespace Go.Proofs.Ytklfgpdfongaeaa
open Go Go.RowKit
set_option linter.unusedSimpArgs false
set_option linter.unusedVariables false
def wire_ReadNumber_L0 (x20 : List UInt8) (s22 : UInt64 × Int) : Option (Sum UInt64 (UInt64 × Int)) :=
  if decide (s22.2 < (x20.length : Int)) then
    idx x20 s22.2 >>= fun x24 =>
    some ((shl64 s22.1 8) ||| x24.toUInt64) >>= fun y26 =>
    some (.inr (y26, w64 (s22.2 + 1)))
  else
    some (.inl s22.1)
def wire_ReadNumber (a0 : List UInt8) : Option (UInt64 × Int × Int) :=
  if (a0.length : Int) == 0 then
    some (0, 0, 12)
  else
    idx a0 0 >>= fun x2 =>
    if decide (x2 ≤ 247) then
      idx a0 0 >>= fun x5 =>
      some (x5.toUInt64, 1, 0)
    else
      idx a0 0 >>= fun x7 =>
      some (w64 ((x7.toNat : Int) - 247)) >>= fun y9 =>
      orRet (if decide ((a0.length : Int) ≤ y9) then
        some (.inl (0, 0, 12))
      else
        idx a0 1 >>= fun x12 =>
        if x12 == 0 then
          some (.inl (0, 0, 12))
        else
          if y9 == 1 then
            idx a0 1 >>= fun x16 =>
            if decide (x16 ≤ 247) then
              some (.inl (0, 0, 12))
            else
              some (.inr ())
          else
            some (.inr ())) fun s10 =>
      (cut a0 1 (w64 (y9 + 1)) >>= fun x20 =>
      iter (wire_ReadNumber_L0 x20) (0, 0)) >>= fun s19 =>
      some (s19, w64 (y9 + 1), 0)
set_option maxRecDepth 100000 in
theorem wire_ReadNumber_ok (a0 : List UInt8) : Spec Try.prog 26 [.rd (sliceR u8R) a0] [] (wire_ReadNumber a0) (fun r nv => ⟨[.rd u64R r.1, .rd i64R r.2.1, .rd i64R r.2.2], []⟩) := by
  refine spec 63 Try.func26 rfl rfl rfl fun H w => ?_
  refine gSeq <| gReg <| R rfl (asg rfl) <| R rfl (asg rfl) <| R rfl (asg rfl) <| gNil <| eThen <| gSeq <| gSeq <| gReg <| R rfl (mv rfl) <| R rfl (len' rfl .rd rfl Try.underlying32) <| R rfl (I.eql rfl rfl) <| gNil <| eThen <| gIf rfl rfl (fun h1 => ?_) (fun h1 => ?_)
  · skip
    refine gSeq <| gReg <| R rfl (asg rfl) <| R rfl (asg rfl) <| R rfl (asg rfl) <| gNil <| eThen <| gRet <| eTret <| eRet [] [] rfl (eE rfl <| eE rfl <| eE rfl <| eN) (rN)
  · skip
    refine gSkip <| eThen <| gSeq <| gSeq <| gReg <| R rfl (mv rfl) <| lBind fun x2 h3 => R rfl (ixR rfl rfl h3 Try.underlying32 ti5 rfl) <| R rfl (ldR rfl ty5) <| R rfl (B.leq rfl rfl) <| gNil <| eThen <| gIf rfl rfl (fun h4 => ?_) (fun h4 => ?_)
    · skip
      refine gSeq <| gReg <| R rfl (mv rfl) <| lBind fun x5 h6 => R rfl (ixR rfl rfl h6 Try.underlying32 ti5 rfl) <| R rfl (ldR rfl ty5) <| R rfl (B.toU rfl Try.underlying5 Try.underlying31) <| R rfl (asg rfl) <| R rfl (asg rfl) <| R rfl (asg rfl) <| gNil <| eThen <| gRet <| eTret <| eRet [] [] rfl (eE rfl <| eE rfl <| eE rfl <| eN) (rN)
    · skip
      refine gSkip <| eThen <| gSeq <| gReg <| R rfl (mv rfl) <| lBind fun x7 h8 => R rfl (ixR rfl rfl h8 Try.underlying32 ti5 rfl) <| R rfl (ldR rfl ty5) <| R rfl (B.toI rfl Try.underlying5 Try.underlying3) <| R rfl (I.sub rfl rfl) <| R rfl (asg rfl) <| lName 5 rfl fun y9 => gNil <| eThen <| gMidR (fun (s10 : Unit) aa ww => Sta (ctx 63 H [] w) [(0, .rd (sliceR u8R) a0), (5, .rd i64R y9)] [] aa ww) ?_ (fun s10 => ?_)
      · skip
        refine gSeq <| gReg <| R rfl (mv rfl) <| R rfl (len' rfl .rd rfl Try.underlying32) <| R rfl (mv rfl) <| R rfl (I.leq rfl rfl) <| R rfl (mv rfl) <| lSplit 29 rfl (fun h11 => ?_) (fun h11 => ?_)
        · skip
          refine lKn 28 rfl h11 <| lSkip (gd rfl rfl rfl rfl) rfl rfl <| lSkip (gd rfl rfl rfl rfl) rfl rfl <| lSkip (gd rfl rfl rfl rfl) rfl rfl <| lSkip (gd rfl rfl rfl rfl) rfl rfl <| R rfl (pkT rfl rfl) <| R rfl (mv rfl) <| lSkip (gd rfl rfl rfl rfl) rfl rfl <| lSkip (gd rfl rfl rfl rfl) rfl rfl <| lSkip (gd rfl rfl rfl rfl) rfl rfl <| lSkip (gdU rfl rfl rfl) rfl rfl <| lSkip (gdU rfl rfl rfl) rfl rfl <| lSkip (gdU rfl rfl rfl) rfl rfl <| lSkip (gdU rfl rfl rfl) rfl rfl <| lSkip (gd rfl rfl rfl rfl) rfl rfl <| R rfl (pkT rfl rfl) <| gNil <| eThen <| gTrue rfl <| gSeq <| gReg <| R rfl (asg rfl) <| R rfl (asg rfl) <| R rfl (asg rfl) <| gNil <| eThen <| gRet <| eMret <| eRet [] [] rfl (eE rfl <| eE rfl <| eE rfl <| eN) (rN)
        · skip
          refine lKn 28 rfl h11 <| lRun (gd rfl rfl rfl rfl) rfl rfl (mv rfl) <| lBind fun x12 h13 => lRun (gd rfl rfl rfl rfl) rfl rfl (ixR rfl rfl h13 Try.underlying32 ti5 rfl) <| lRun (gd rfl rfl rfl rfl) rfl rfl (ldR rfl ty5) <| lRun (gd rfl rfl rfl rfl) rfl rfl (B.eql rfl rfl) <| R rfl (pkF rfl rfl) <| R rfl (mv rfl) <| lSplit 35 rfl (fun h14 => ?_) (fun h14 => ?_)
          · skip
            refine lKn 33 rfl h14 <| lKn 34 rfl h14 <| lSkip (gd rfl rfl rfl rfl) rfl rfl <| lSkip (gd rfl rfl rfl rfl) rfl rfl <| lSkip (gd rfl rfl rfl rfl) rfl rfl <| lSkip (gdU rfl rfl rfl) rfl rfl <| lSkip (gdU rfl rfl rfl) rfl rfl <| lSkip (gdU rfl rfl rfl) rfl rfl <| lSkip (gdU rfl rfl rfl) rfl rfl <| lSkip (gd rfl rfl rfl rfl) rfl rfl <| R rfl (pkT rfl rfl) <| gNil <| eThen <| gTrue rfl <| gSeq <| gReg <| R rfl (asg rfl) <| R rfl (asg rfl) <| R rfl (asg rfl) <| gNil <| eThen <| gRet <| eMret <| eRet [] [] rfl (eE rfl <| eE rfl <| eE rfl <| eN) (rN)
          · skip
            refine lKn 33 rfl h14 <| lKn 34 rfl h14 <| lRun (gd rfl rfl rfl rfl) rfl rfl (mv rfl) <| lRun (gd rfl rfl rfl rfl) rfl rfl (I.eql rfl rfl) <| lRun (gd rfl rfl rfl rfl) rfl rfl (mv rfl) <| lSplit 38 rfl (fun h15 => ?_) (fun h15 => ?_)
            · skip
              refine lKn 37 rfl h15 <| lRun (gd rfl rfl rfl rfl) rfl rfl (mv rfl) <| lBind fun x16 h17 => lRun (gd rfl rfl rfl rfl) rfl rfl (ixR rfl rfl h17 Try.underlying32 ti5 rfl) <| lRun (gd rfl rfl rfl rfl) rfl rfl (ldR rfl ty5) <| lRun (gd rfl rfl rfl rfl) rfl rfl (B.leq rfl rfl) <| lRun (gd rfl rfl rfl rfl) rfl rfl (pkT rfl rfl) <| R rfl (pkF rfl rfl) <| gNil <| eThen <| gIf rfl rfl (fun h18 => ?_) (fun h18 => ?_)
              · skip
                refine gKn 42 rfl h18 <| gKn 43 rfl h18 <| gSeq <| gReg <| R rfl (asg rfl) <| R rfl (asg rfl) <| R rfl (asg rfl) <| gNil <| eThen <| gRet <| eMret <| eRet [] [] rfl (eE rfl <| eE rfl <| eE rfl <| eN) (rN)
              · skip
                refine gKn 42 rfl h18 <| gKn 43 rfl h18 <| gSkip <| eMidR (fun aa ww h => h.sub [] (sS rfl <| sS rfl <| sN) (rN))
            · skip
              refine lKn 37 rfl h15 <| lSkip (gd rfl rfl rfl rfl) rfl rfl <| lSkip (gd rfl rfl rfl rfl) rfl rfl <| lSkip (gd rfl rfl rfl rfl) rfl rfl <| lSkip (gd rfl rfl rfl rfl) rfl rfl <| lRun (gd rfl rfl rfl rfl) rfl rfl (pkF rfl rfl) <| R rfl (pkF rfl rfl) <| gNil <| eThen <| gFalse rfl <| gSkip <| eMidR (fun aa ww h => h.sub [] (sS rfl <| sS rfl <| sN) (rN))
      · skip
        refine gSeq <| gReg <| R rfl (asg rfl) <| gNil <| eThen <| gMid (fun (s19 : UInt64) aa ww => Sta (ctx 63 H [] w) [(5, .rd i64R y9), (6, .rd u64R s19)] [] aa ww) ?_ (fun s19 => ?_)
        · skip
          refine gSeq <| gReg <| R rfl (mv rfl) <| R rfl (mv rfl) <| R rfl (I.add rfl rfl) <| lBind fun x20 h21 => R rfl (cut' rfl (.to rfl) (.to rfl) h21 Try.underlying32 ti5) <| R rfl (len' rfl .rd rfl Try.underlying32) <| R rfl (mv rfl) <| gNil <| eThen <| gLoop (fun (s22 : UInt64 × Int) aa ww => Sta (ctx 63 H [] w) [(5, .rd i64R y9), (6, .rd u64R s22.1), (48, .rd (sliceR u8R) x20), (49, .rd i64R (x20.length : Int)), (50, .rd i64R s22.2)] [] aa ww) (fun aa ww h => h.sub [] (sS rfl <| sS rfl <| sS rfl <| sS rfl <| sS rfl <| sN) (rN)) (fun s22 => ?_)
          refine gSeq <| gReg <| R rfl (I.lss rfl rfl) <| gNil <| eThen <| gSeq <| gIf rfl rfl (fun h23 => ?_) (fun h23 => ?_)
          · skip
            refine gSkip <| eThen <| gSeq <| gBlk <| gSeq <| gReg <| lBind fun x24 h25 => R rfl (ixR rfl rfl h25 Try.underlying32 ti5 rfl) <| R rfl (ldR rfl ty5) <| R rfl (asg rfl) <| gNil <| eThen <| gReg <| R rfl (mv rfl) <| R rfl (U.shl rfl rfl (Int.natCast_nonneg _)) <| R rfl (mv rfl) <| R rfl (B.toU rfl Try.underlying5 Try.underlying31) <| R rfl (U.or rfl rfl) <| R rfl (asg rfl) <| lName 6 rfl fun y26 => gNil <| eBlk <| eThen <| gReg <| R rfl (I.add rfl rfl) <| R rfl (mv rfl) <| gNil <| eNext (fun aa ww h => h.sub [] (sS rfl <| sS rfl <| sS rfl <| sS rfl <| sS rfl <| sN) (rN))
          · skip
            refine gExit <| eTexit <| eLeave <| eMid (fun aa ww h => h.sub [] (sS rfl <| sS rfl <| sN) (rN))
        · skip
          refine gSeq <| gReg <| R rfl (mv rfl) <| R rfl (mv rfl) <| R rfl (I.add rfl rfl) <| R rfl (asg rfl) <| R rfl (asg rfl) <| R rfl (asg rfl) <| gNil <| eThen <| gRet <| eRet [] [] rfl (eE rfl <| eE rfl <| eE rfl <| eN) (rN)
def wire_part (a0 : List UInt8) (a1 : Int) (a2 : Int) : Option ((List UInt8) × Int × Int) :=
  if decide (a1 < 0) then
    some ([], 0, 2)
  else
    wire_ReadNumber a0 >>= fun r2 =>
    (if r2.2.2 != 0 then
      some true
    else
      if decide ((UInt64.ofInt a1) < r2.1) then
        some true
      else
        chk (a2 ≠ 0) >>= fun u7 =>
        some (decide ((UInt64.ofInt (w64 (Int.tdiv (w64 ((a0.length : Int) - r2.2.1)) a2))) < r2.1))) >>= fun s4 =>
    if s4 then
      some ([], 0, 12)
    else
      some (w64 (r2.2.1 + (w64 (a2 * (w64 (r2.1.toNat : Int)))))) >>= fun y10 =>
      cut a0 r2.2.1 y10 >>= fun x11 =>
      some (x11, y10, 0)
set_option maxRecDepth 100000 in
theorem wire_part_ok (a0 : List UInt8) (a1 : Int) (a2 : Int) : Spec Try.prog 107 [.rd (sliceR u8R) a0, .rd i64R a1, .rd i64R a2] [] (wire_part a0 a1 a2) (fun r nv => ⟨[.rd (sliceR u8R) r.1, .rd i64R r.2.1, .rd i64R r.2.2], []⟩) := by
  refine spec 51 Try.func107 rfl rfl rfl fun H w => ?_
  refine gSeq <| gReg <| R rfl (asg rfl) <| R rfl (asg rfl) <| R rfl (asg rfl) <| gNil <| eThen <| gSeq <| gSeq <| gReg <| R rfl (mv rfl) <| R rfl (I.lss rfl rfl) <| gNil <| eThen <| gIf rfl rfl (fun h1 => ?_) (fun h1 => ?_)
  · skip
    refine gSeq <| gReg <| R rfl (asg rfl) <| R rfl (asg rfl) <| R rfl (asg rfl) <| gNil <| eThen <| gRet <| eTret <| eRdNil u8R 6 rfl <| eRet [] [] rfl (eE rfl <| eE rfl <| eE rfl <| eN) (rN)
  · skip
    refine gSkip <| eThen <| gSeq <| gReg <| R rfl (mv rfl) <| call [] [] rfl Try.func26 rfl rfl (wire_ReadNumber_ok _) (aQ rfl <| aN) rN fun r2 n3 => R rfl (mv rfl) <| R rfl (ext rfl rfl) <| R rfl (ext rfl rfl) <| R rfl (ext rfl rfl) <| R rfl (asg rfl) <| R rfl (asg rfl) <| R rfl (asg rfl) <| gNil <| eThen <| gSeq <| gMid (fun (s4 : Bool) aa ww => Sta (ctx 51 H [] w) [(0, .rd (sliceR u8R) a0), (2, .rd i64R a2), (9, .rd u64R r2.1), (10, .rd i64R r2.2.1), (39, .rd boolR s4)] [] aa ww) ?_ (fun s4 => ?_)
    · skip
      refine gReg <| R rfl (mv rfl) <| R rfl (I.neq rfl rfl) <| R rfl (mv rfl) <| lSplit 23 rfl (fun h5 => ?_) (fun h5 => ?_)
      · skip
        refine lKn 22 rfl h5 <| lSkip (gd rfl rfl rfl rfl) rfl rfl <| lSkip (gd rfl rfl rfl rfl) rfl rfl <| lSkip (gd rfl rfl rfl rfl) rfl rfl <| lSkip (gd rfl rfl rfl rfl) rfl rfl <| R rfl (pkT rfl rfl) <| R rfl (mv rfl) <| lSkip (gd rfl rfl rfl rfl) rfl rfl <| lSkip (gd rfl rfl rfl rfl) rfl rfl <| lSkip (gd rfl rfl rfl rfl) rfl rfl <| lSkip (gd rfl rfl rfl rfl) rfl rfl <| lSkip (gd rfl rfl rfl rfl) rfl rfl <| lSkip (gd rfl rfl rfl rfl) rfl rfl <| lSkip (gd rfl rfl rfl rfl) rfl rfl <| lSkip (gd rfl rfl rfl rfl) rfl rfl <| lSkip (gd rfl rfl rfl rfl) rfl rfl <| R rfl (pkT rfl rfl) <| gNil <| eMid (fun aa ww h => h.sub [] (sS rfl <| sS rfl <| sS rfl <| sS rfl <| sS rfl <| sN) (rN))
      · skip
        refine lKn 22 rfl h5 <| lRun (gd rfl rfl rfl rfl) rfl rfl (mv rfl) <| lRun (gd rfl rfl rfl rfl) rfl rfl (mv rfl) <| lRun (gd rfl rfl rfl rfl) rfl rfl (I.toU rfl Try.underlying3 Try.underlying31) <| lRun (gd rfl rfl rfl rfl) rfl rfl (U.gtr rfl rfl) <| R rfl (pkF rfl rfl) <| R rfl (mv rfl) <| lSplit 29 rfl (fun h6 => ?_) (fun h6 => ?_)
        · skip
          refine lKn 27 rfl h6 <| lKn 28 rfl h6 <| lSkip (gd rfl rfl rfl rfl) rfl rfl <| lSkip (gd rfl rfl rfl rfl) rfl rfl <| lSkip (gd rfl rfl rfl rfl) rfl rfl <| lSkip (gd rfl rfl rfl rfl) rfl rfl <| lSkip (gd rfl rfl rfl rfl) rfl rfl <| lSkip (gd rfl rfl rfl rfl) rfl rfl <| lSkip (gd rfl rfl rfl rfl) rfl rfl <| lSkip (gd rfl rfl rfl rfl) rfl rfl <| lSkip (gd rfl rfl rfl rfl) rfl rfl <| R rfl (pkT rfl rfl) <| gNil <| eMid (fun aa ww h => h.sub [] (sS rfl <| sS rfl <| sS rfl <| sS rfl <| sS rfl <| sN) (rN))
        · skip
          refine lKn 27 rfl h6 <| lKn 28 rfl h6 <| lRun (gd rfl rfl rfl rfl) rfl rfl (mv rfl) <| lRun (gd rfl rfl rfl rfl) rfl rfl (mv rfl) <| lRun (gd rfl rfl rfl rfl) rfl rfl (len' rfl .rd rfl Try.underlying32) <| lRun (gd rfl rfl rfl rfl) rfl rfl (mv rfl) <| lRun (gd rfl rfl rfl rfl) rfl rfl (I.sub rfl rfl) <| lRun (gd rfl rfl rfl rfl) rfl rfl (mv rfl) <| lBind fun u7 h8 => lRun (gd rfl rfl rfl rfl) rfl rfl (I.quo rfl rfl (chk_some h8)) <| lRun (gd rfl rfl rfl rfl) rfl rfl (I.toU rfl Try.underlying3 Try.underlying31) <| lRun (gd rfl rfl rfl rfl) rfl rfl (U.gtr rfl rfl) <| R rfl (pkF rfl rfl) <| gNil <| eMid (fun aa ww h => h.sub [] (sS rfl <| sS rfl <| sS rfl <| sS rfl <| sS rfl <| sN) (rN))
    · skip
      refine gIf rfl rfl (fun h9 => ?_) (fun h9 => ?_)
      · skip
        refine gSeq <| gReg <| R rfl (asg rfl) <| R rfl (asg rfl) <| R rfl (asg rfl) <| gNil <| eThen <| gRet <| eTret <| eRdNil u8R 6 rfl <| eRet [] [] rfl (eE rfl <| eE rfl <| eE rfl <| eN) (rN)
      · skip
        refine gSkip <| eThen <| gSeq <| gReg <| R rfl (mv rfl) <| R rfl (mv rfl) <| R rfl (mv rfl) <| R rfl (U.toI rfl Try.underlying31 Try.underlying3) <| R rfl (I.mul rfl rfl) <| R rfl (I.add rfl rfl) <| R rfl (asg rfl) <| lName 12 rfl fun y10 => gNil <| eThen <| gSeq <| gReg <| R rfl (mv rfl) <| R rfl (mv rfl) <| R rfl (mv rfl) <| lBind fun x11 h12 => R rfl (cut' rfl (.to rfl) (.to rfl) h12 Try.underlying32 ti5) <| R rfl (mv rfl) <| R rfl (asg rfl) <| R rfl (asg rfl) <| R rfl (asg rfl) <| gNil <| eThen <| gRet <| eRet [] [] rfl (eE rfl <| eE rfl <| eE rfl <| eN) (rN)
def wire_ReadIDs_L0 (x4 : List (Vector UInt8 32)) (s8 : (List UInt8) × (List (Vector UInt8 32)) × Int) : Option (Sum ((List (Vector UInt8 32))) ((List UInt8) × (List (Vector UInt8 32)) × Int)) :=
  if decide (s8.2.2 < (x4.length : Int)) then
    idx s8.2.1 s8.2.2 >>= fun x10 =>
    cut s8.1 ((min s8.1.length 32 : Nat) : Int) (s8.1.length : Int) >>= fun x12 =>
    some (.inr (x12, s8.2.1.set (s8.2.2 : Int).toNat (vcopy x10 s8.1), w64 (s8.2.2 + 1)))
  else
    some (.inl s8.2.1)
def wire_ReadIDs (a0 : List UInt8) (a1 : Int) : Option ((List (Vector UInt8 32)) × Int × Int) :=
  wire_part a0 a1 32 >>= fun r1 =>
  if r1.2.2 != 0 then
    some ([], 0, r1.2.2)
  else
    mkn 32 (Vector.replicate 32 0) (w64 (Int.tdiv (r1.1.length : Int) 32)) >>= fun x4 =>
    (iter (wire_ReadIDs_L0 x4) (r1.1, x4, 0)) >>= fun s7 =>
    wire_rising s7 >>= fun r14 =>
    if !r14 then
      some ([], 0, 12)
    else
      some (s7, r1.2.1, 0)
set_option maxRecDepth 100000 in
theorem wire_ReadIDs_ok (a0 : List UInt8) (a1 : Int) : Spec Try.prog 61 [.rd (sliceR u8R) a0, .rd i64R a1] [] (wire_ReadIDs a0 a1) (fun r nv => ⟨[.rd (sliceR (arrR 32 u8R)) r.1, .rd i64R r.2.1, .rd i64R r.2.2], []⟩) := by
  refine spec 45 Try.func61 rfl rfl rfl fun H w => ?_
  refine gSeq <| gReg <| R rfl (asg rfl) <| R rfl (asg rfl) <| R rfl (asg rfl) <| gNil <| eThen <| gSeq <| gReg <| R rfl (mv rfl) <| R rfl (mv rfl) <| call [] [] rfl Try.func107 rfl rfl (wire_part_ok _ _ _) (aQ rfl <| aQ rfl <| aQ rfl <| aN) rN fun r1 n2 => R rfl (mv rfl) <| R rfl (ext rfl rfl) <| R rfl (ext rfl rfl) <| R rfl (ext rfl rfl) <| R rfl (asg rfl) <| R rfl (asg rfl) <| R rfl (asg rfl) <| gNil <| eThen <| gSeq <| gSeq <| gReg <| R rfl (mv rfl) <| R rfl (I.neq rfl rfl) <| gNil <| eThen <| gIf rfl rfl (fun h3 => ?_) (fun h3 => ?_)
  · skip
    refine gSeq <| gReg <| R rfl (mv rfl) <| R rfl (asg rfl) <| R rfl (asg rfl) <| R rfl (asg rfl) <| gNil <| eThen <| gRet <| eTret <| eRdNil (arrR 32 u8R) 4 rfl <| eRet [] [] rfl (eE rfl <| eE rfl <| eE rfl <| eN) (rN)
  · skip
    refine gSkip <| eThen <| gSeq <| gReg <| R rfl (mv rfl) <| R rfl (len' rfl .rd rfl Try.underlying32) <| R rfl (I.quo rfl rfl (by decide)) <| lBind fun x4 h5 => Ef rfl (mks 1 rfl rfl h5 Try.underlying83 ti102 zr101 rfl) fun v6 => R rfl (asg rfl) <| gNil <| eThen <| gMid (fun (s7 : (List (Vector UInt8 32))) aa ww => Sta (ctx 45 H [] w) [(8, .rd i64R r1.2.1), (10, .val v6)] [(1, some (v6, .list (arrR 32 u8R) 102 s7))] aa ww) ?_ (fun s7 => ?_)
    · skip
      refine gSeq <| gReg <| R rfl (mv rfl) <| R rfl (len' rfl (.own 1 rfl) rfl Try.underlying83) <| R rfl (mv rfl) <| gNil <| eThen <| gLoop (fun (s8 : (List UInt8) × (List (Vector UInt8 32)) × Int) aa ww => Sta (ctx 45 H [] w) [(7, .rd (sliceR u8R) s8.1), (8, .rd i64R r1.2.1), (10, .val v6), (27, .rd i64R (x4.length : Int)), (28, .rd i64R s8.2.2)] [(1, some (v6, .list (arrR 32 u8R) 102 s8.2.1))] aa ww) (fun aa ww h => h.sub [1] (sS rfl <| sS rfl <| sS rfl <| sS rfl <| sS rfl <| sN) (rR rfl rfl <| rN)) (fun s8 => ?_)
      refine gSeq <| gReg <| R rfl (I.lss rfl rfl) <| gNil <| eThen <| gSeq <| gIf rfl rfl (fun h9 => ?_) (fun h9 => ?_)
      · skip
        refine gSkip <| eThen <| gSeq <| gBlk <| gSeq <| gReg <| R rfl (mv rfl) <| R rfl (asg rfl) <| gNil <| eThen <| gReg <| R rfl (mv rfl) <| R rfl (mv rfl) <| R rfl (mv rfl) <| lBind fun x10 h11 => R rfl (ixO 1 rfl rfl rfl h11 Try.underlying83 ti102) <| R rfl (cutW 1 rfl rfl (Foc.el h11) Try.underlying102 ti5 rfl) <| R rfl (mv rfl) <| lCpy 1 rfl rfl rfl (Foc.el h11) rfl .rd rfl Try.underlying32 ti5 <| lBind fun x12 h13 => R rfl (cut' rfl (.to rfl) .no h13 Try.underlying32 ti5) <| R rfl (asg rfl) <| gNil <| eBlk <| eThen <| gReg <| R rfl (I.add rfl rfl) <| R rfl (mv rfl) <| gNil <| eNext (fun aa ww h => h.sub [1] (sS rfl <| sS rfl <| sS rfl <| sS rfl <| sS rfl <| sN) (rR rfl rfl <| rN))
      · skip
        refine gExit <| eTexit <| eLeave <| eMid (fun aa ww h => h.sub [1] (sS rfl <| sS rfl <| sN) (rR rfl rfl <| rN))
    · skip
      refine gSeq <| gSeq <| gReg <| R rfl (mv rfl) <| lFrz 1 [10, 40] rfl (fS rfl <| fS rfl <| fN) <| call [] [] rfl Try.func115 rfl rfl (wire_rising_ok _) (aQ rfl <| aN) rN fun r14 n15 => R rfl (not' rfl) <| gNil <| eThen <| gIf rfl rfl (fun h16 => ?_) (fun h16 => ?_)
      · skip
        refine gSeq <| gReg <| R rfl (asg rfl) <| R rfl (asg rfl) <| R rfl (asg rfl) <| gNil <| eThen <| gRet <| eTret <| eRdNil (arrR 32 u8R) 4 rfl <| eRet [] [] rfl (eE rfl <| eE rfl <| eE rfl <| eN) (rN)
      · skip
        refine gSkip <| eThen <| gSeq <| gReg <| R rfl (mv rfl) <| R rfl (mv rfl) <| R rfl (asg rfl) <| R rfl (asg rfl) <| R rfl (asg rfl) <| gNil <| eThen <| gRet <| eRet [] [] rfl (eE rfl <| eE rfl <| eE rfl <| eN) (rN)
def wire_ReadBytes (a0 : List UInt8) (a1 : Int) : Option ((List UInt8) × Int × Int) :=
  wire_part a0 a1 1 >>= fun r1 =>
  bytes_Clone r1.1 >>= fun r3 =>
  some (r3, r1.2.1, r1.2.2)
set_option maxRecDepth 100000 in
theorem wire_ReadBytes_ok (a0 : List UInt8) (a1 : Int) : Spec Try.prog 48 [.rd (sliceR u8R) a0, .rd i64R a1] [] (wire_ReadBytes a0 a1) (fun r nv => ⟨[.val (nv 0), .rd i64R r.2.1, .rd i64R r.2.2], [(100, some (nv 0, .list u8R 5 r.1))]⟩) := by
  refine spec 21 Try.func48 rfl rfl rfl fun H w => ?_
  refine gSeq <| gReg <| R rfl (asg rfl) <| R rfl (asg rfl) <| R rfl (asg rfl) <| gNil <| eThen <| gSeq <| gReg <| R rfl (mv rfl) <| R rfl (mv rfl) <| call [] [] rfl Try.func107 rfl rfl (wire_part_ok _ _ _) (aQ rfl <| aQ rfl <| aQ rfl <| aN) rN fun r1 n2 => R rfl (mv rfl) <| R rfl (ext rfl rfl) <| R rfl (ext rfl rfl) <| R rfl (ext rfl rfl) <| R rfl (asg rfl) <| R rfl (asg rfl) <| R rfl (asg rfl) <| gNil <| eThen <| gSeq <| gReg <| R rfl (mv rfl) <| call [] [(100, 1)] rfl Try.func108 rfl rfl (bytes_Clone_ok _) (aQ rfl <| aN) rN fun r3 n4 => R rfl (mv rfl) <| R rfl (mv rfl) <| R rfl (asg rfl) <| R rfl (asg rfl) <| R rfl (asg rfl) <| gNil <| eThen <| gRet <| eRet [(n4 0)] [1] rfl (eE rfl <| eE rfl <| eE rfl <| eN) (rR rfl rfl <| rN)
def frame_read_L1 (a0 : UInt8) (s16 : (List UInt8) × (List (List UInt8)) × UInt64) : Option (Sum (Sum (api_Frame × Int) (UInt64 × (List (Vector UInt8 32)) × (List (List UInt8)) × Int)) ((List UInt8) × (List (List UInt8)) × UInt64)) :=
  if decide (0 < s16.2.2) then
    wire_ReadBytes s16.1 400 >>= fun r19 =>
    if r19.2.2 != 0 then
      some (.inl (.inl ((⟨a0, 0, [], s16.2.1⟩ : api_Frame), r19.2.2)))
    else
      cut s16.1 r19.2.1 (s16.1.length : Int) >>= fun x22 =>
      app 24 s16.2.1 [r19.1] >>= fun x25 =>
      some (.inr (x22, x25, s16.2.2 - 1))
  else
    some (.inl (.inr (0, [], s16.2.1, 0)))
def frame_read (a0 : UInt8) (a1 : List UInt8) : Option (api_Frame × Int) :=
  orRet (frame_listed a0 >>= fun r3 =>
  if r3 then
    wire_ReadIDs a1 40 >>= fun r6 =>
    some (.inr (0, r6.1, [], r6.2.2))
  else
    if a0 == 5 then
      wire_ReadNumber a1 >>= fun r9 =>
      (if r9.2.2 != 0 then
        some true
      else
        some (decide (8 < r9.1))) >>= fun s11 =>
      if s11 then
        some (.inl ((⟨a0, 0, [], []⟩ : api_Frame), 12))
      else
        cut a1 r9.2.1 (a1.length : Int) >>= fun x14 =>
        iter (frame_read_L1 a0) (x14, [], r9.1)
    else
      wire_ReadNumber a1 >>= fun r32 =>
      some (.inr (r32.1, [], [], r32.2.2))) fun s2 =>
  some ((⟨a0, s2.1, s2.2.1, s2.2.2.1⟩ : api_Frame), s2.2.2.2)
set_option maxRecDepth 100000 in
theorem frame_read_ok (a0 : UInt8) (a1 : List UInt8) : Spec Try.prog 125 [.rd u8R a0, .rd (sliceR u8R) a1] [] (frame_read a0 a1) (fun r nv => ⟨[.rd R_api_Frame r.1, .rd i64R r.2], []⟩) := by
  refine spec 75 Try.func125 rfl rfl rfl fun H w => ?_
  refine gSeq <| gReg <| Eb rfl (allc 1 ti105 (ZrE.rd (R := u8R) (x := 0) (Zr.num rfl) (ZrE.rd (R := u64R) (x := 0) (Zr.num rfl) (ZrE.nilS (ZrE.nilS ZrE.nil)) rfl) rfl)) fun v1 => R rfl (asg rfl) <| gNil <| eThen <| gSeq <| gReg <| R rfl (mv rfl) <| R rfl (faB 1 rfl rfl Try.underlying105 rfl (by exact ti5)) <| Es (sto 1 rfl rfl (Foc.cast Foc.here rfl) rfl ti5) <| gNil <| eThen <| gMidR (fun (s2 : UInt64 × (List (Vector UInt8 32)) × (List (List UInt8)) × Int) aa ww => ∃ nv : Nat → Value, Sta (ctx 75 H [] w) [(4, .val (ptrTo v1 0)), (5, .rd i64R s2.2.2.2)] [(15, some ((nv 0), .list (sliceR u8R) 32 s2.2.2.1)), (1, some (v1, .box 105 [.rd u8R a0, .rd u64R s2.1, .rd (sliceR (arrR 32 u8R)) s2.2.1, .val (nv 0)]))] aa ww) ?_ (fun s2 => ?_)
  · skip
    refine gBlk <| gSeq <| gReg <| R rfl (mv rfl) <| call [] [] rfl Try.func121 rfl rfl (frame_listed_ok _) (aQ rfl <| aN) rN fun r3 n4 => R rfl (asg rfl) <| gNil <| eThen <| gIf rfl rfl (fun h5 => ?_) (fun h5 => ?_)
    · skip
      refine gKn 23 rfl h5 <| gReg <| R rfl (mv rfl) <| call [] [] rfl Try.func61 rfl rfl (wire_ReadIDs_ok _ _) (aQ rfl <| aQ rfl <| aN) rN fun r6 n7 => R rfl (mv rfl) <| R rfl (ext rfl rfl) <| R rfl (ext rfl rfl) <| R rfl (ext rfl rfl) <| R rfl (faB 1 rfl rfl Try.underlying105 rfl (by exact ti83)) <| Es (stoE 1 rfl rfl (Swap.cast (Swap.next fills_rd (Swap.next fills_rd (Swap.here fills_val))) rfl) rfl ones_rd fills_rd ti83) <| R rfl (asg rfl) <| gNil <| eBlk <| eNew (sliceR u8R) 32 16 <| eMidR (fun aa ww h => ⟨nvl [(.slice none 0 0)], h.sub [16, 1] (sS rfl <| sS rfl <| sN) (rR rfl rfl <| rR rfl rfl <| rN)⟩)
    · skip
      refine gKn 23 rfl h5 <| gSeq <| gReg <| R rfl (mv rfl) <| R rfl (B.eql rfl rfl) <| R rfl (asg rfl) <| gNil <| eThen <| gIf rfl rfl (fun h8 => ?_) (fun h8 => ?_)
      · skip
        refine gKn 33 rfl h8 <| gSeq <| gReg <| R rfl (mv rfl) <| call [] [] rfl Try.func26 rfl rfl (wire_ReadNumber_ok _) (aQ rfl <| aN) rN fun r9 n10 => R rfl (mv rfl) <| R rfl (ext rfl rfl) <| R rfl (ext rfl rfl) <| R rfl (ext rfl rfl) <| R rfl (asg rfl) <| R rfl (asg rfl) <| R rfl (asg rfl) <| gNil <| eThen <| gSeq <| gMid (fun (s11 : Bool) aa ww => Sta (ctx 75 H [] w) [(1, .rd (sliceR u8R) a1), (4, .val (ptrTo v1 0)), (5, .rd i64R 0), (6, .rd u64R r9.1), (7, .rd i64R r9.2.1), (45, .rd boolR s11)] [(1, some (v1, .box 105 [.rd u8R a0, .rd u64R 0, .val (.slice none 0 0), .val (.slice none 0 0)]))] aa ww) ?_ (fun s11 => ?_)
        · skip
          refine gReg <| R rfl (mv rfl) <| R rfl (I.neq rfl rfl) <| R rfl (mv rfl) <| lSplit 42 rfl (fun h12 => ?_) (fun h12 => ?_)
          · skip
            refine lKn 41 rfl h12 <| lSkip (gd rfl rfl rfl rfl) rfl rfl <| lSkip (gd rfl rfl rfl rfl) rfl rfl <| R rfl (pkT rfl rfl) <| gNil <| eMid (fun aa ww h => h.sub [1] (sS rfl <| sS rfl <| sS rfl <| sS rfl <| sS rfl <| sS rfl <| sN) (rR rfl rfl <| rN))
          · skip
            refine lKn 41 rfl h12 <| lRun (gd rfl rfl rfl rfl) rfl rfl (mv rfl) <| lRun (gd rfl rfl rfl rfl) rfl rfl (U.gtr rfl rfl) <| R rfl (pkF rfl rfl) <| gNil <| eMid (fun aa ww h => h.sub [1] (sS rfl <| sS rfl <| sS rfl <| sS rfl <| sS rfl <| sS rfl <| sN) (rR rfl rfl <| rN))
        · skip
          refine gIf rfl rfl (fun h13 => ?_) (fun h13 => ?_)
          · skip
            refine gSeq <| gReg <| lPnl (arrR 32 u8R) [.rd u8R a0, .rd u64R 0, .rd (sliceR (arrR 32 u8R)) [], .val (.slice none 0 0)] 1 [.rd u8R a0, .rd u64R 0] [.val (.slice none 0 0)] rfl rfl rfl <| lPnl (sliceR u8R) [.rd u8R a0, .rd u64R 0, .rd (sliceR (arrR 32 u8R)) [], .rd (sliceR (sliceR u8R)) []] 1 [.rd u8R a0, .rd u64R 0, .rd (sliceR (arrR 32 u8R)) []] [] rfl rfl rfl <| lJoi (R := R_api_Frame) (⟨a0, 0, [], []⟩ : api_Frame) 1 rfl (Sp.via (Sp.prod (Sp.prod (Sp.prod (Sp.prod Sp.unit))))) <| R rfl (ld 1 rfl rfl Foc.here ty105 rfl) <| Es (sto 1 rfl rfl Foc.here rfl ti105) <| R rfl (asg rfl) <| gNil <| eThen <| gRet <| eTret <| eBret <| eMret <| eRet [] [] rfl (eC 1 rfl rfl ty105 <| eE rfl <| eN) (rN)
          · skip
            refine gSkip <| eThen <| gSeq <| gReg <| R rfl (mv rfl) <| R rfl (mv rfl) <| lBind fun x14 h15 => R rfl (cut' rfl (.to rfl) .no h15 Try.underlying32 ti5) <| R rfl (asg rfl) <| gNil <| eThen <| gNew (sliceR u8R) 32 31 <| gLoop (fun (s16 : (List UInt8) × (List (List UInt8)) × UInt64) aa ww => ∃ nv : Nat → Value, Sta (ctx 75 H [] w) [(1, .rd (sliceR u8R) s16.1), (4, .val (ptrTo v1 0)), (5, .rd i64R 0), (6, .rd u64R s16.2.2)] [(30, some ((nv 0), .list (sliceR u8R) 32 s16.2.1)), (1, some (v1, .box 105 [.rd u8R a0, .rd u64R 0, .val (.slice none 0 0), .val (nv 0)]))] aa ww) (fun aa ww h => ⟨nvl [(.slice none 0 0)], h.sub [31, 1] (sS rfl <| sS rfl <| sS rfl <| sS rfl <| sN) (rR rfl rfl <| rR rfl rfl <| rN)⟩) (fun s16 => ?_)
            refine gEx fun n17 => gSeq <| gSeq <| gReg <| R rfl (mv rfl) <| R rfl (U.gtr rfl rfl) <| gNil <| eThen <| gIf rfl rfl (fun h18 => ?_) (fun h18 => ?_)
            · skip
              refine gSkip <| eThen <| gSeq <| gBlk <| gSeq <| gReg <| R rfl (mv rfl) <| call [] [(100, 32)] rfl Try.func48 rfl rfl (wire_ReadBytes_ok _ _) (aQ rfl <| aQ rfl <| aN) rN fun r19 n20 => R rfl (mv rfl) <| R rfl (ext rfl rfl) <| R rfl (ext rfl rfl) <| R rfl (ext rfl rfl) <| R rfl (asg rfl) <| R rfl (asg rfl) <| R rfl (asg rfl) <| gNil <| eThen <| gSeq <| gSeq <| gReg <| R rfl (mv rfl) <| R rfl (I.neq rfl rfl) <| gNil <| eThen <| gIf rfl rfl (fun h21 => ?_) (fun h21 => ?_)
              · skip
                refine gSeq <| gReg <| lPnl (arrR 32 u8R) [.rd u8R a0, .rd u64R 0, .rd (sliceR (arrR 32 u8R)) [], .val (n17 0)] 1 [.rd u8R a0, .rd u64R 0] [.val (n17 0)] rfl rfl rfl <| lPow [.rd u8R a0, .rd u64R 0, .rd (sliceR (arrR 32 u8R)) [], .rd (sliceR (sliceR u8R)) s16.2.1] 1 30 [.rd u8R a0, .rd u64R 0, .rd (sliceR (arrR 32 u8R)) []] [] rfl rfl rfl rfl rfl <| lJoi (R := R_api_Frame) (⟨a0, 0, [], s16.2.1⟩ : api_Frame) 1 rfl (Sp.via (Sp.prod (Sp.prod (Sp.prod (Sp.prod Sp.unit))))) <| R rfl (ld 1 rfl rfl Foc.here ty105 rfl) <| R rfl (mv rfl) <| Es (sto 1 rfl rfl Foc.here rfl ti105) <| R rfl (asg rfl) <| gNil <| eThen <| gRet <| eTret <| eBret <| eTret <| eLret <| eBret <| eMret <| eRet [] [] rfl (eC 1 rfl rfl ty105 <| eE rfl <| eN) (rN)
              · skip
                refine gSkip <| eThen <| gRegH [1, 30, 42] mixed rfl rfl <| hTake 0 rfl (by kernel_rfl) (by kernel_rfl) (by kernel_rfl) (gd0 rfl) rfl rfl (faB 1 rfl rfl Try.underlying105 rfl (by exact ti103)) <| hTake 2 rfl (by kernel_rfl) (by kernel_rfl) (by kernel_rfl) (gd0 rfl) rfl rfl (mv rfl) <| hTake 5 rfl (by kernel_rfl) (by kernel_rfl) (by kernel_rfl) (gd0 rfl) rfl rfl (mv rfl) <| hTake 6 rfl (by kernel_rfl) (by kernel_rfl) (by kernel_rfl) (gd0 rfl) rfl rfl (mv rfl) <| hBind fun x22 h23 => hTake 7 rfl (by kernel_rfl) (by kernel_rfl) (by kernel_rfl) (gd0 rfl) rfl rfl (cut' rfl (.to rfl) .no h23 Try.underlying32 ti5) <| hAlt [1, 3] (by kernel_rfl) rfl ⟨?_, ?_, trivial⟩
                · skip
                  refine oRun 1 rfl (gd0 rfl) rfl rfl flat_val (ldV 1 rfl rfl (At.cast (At.next fills_rd (At.next fills_rd (At.next fills_val At.here))) rfl) sc103 rfl) <| hFrz 32 [57, 9, 66] rfl (fS rfl <| fS rfl <| fS rfl <| fN) <| hDo 3 rfl (by kernel_rfl) (gd0 rfl) rfl rfl rfl (lit (R := (sliceR u8R)) ([r19.1] : List (List UInt8)) 42 (pP rfl rfl <| pN) rfl Try.underlying103 ti32 rfl rfl) (fun _ => rfl) fun v24 => hFrz 42 [67] rfl (fS rfl <| fN) <| hBind fun x25 h26 => hDo 4 rfl (by kernel_rfl) (gd0 rfl) rfl rfl rfl (apn 30 rfl rfl rfl .rd h26 Try.underlying103 ti32 rfl rfl rfl) (fun _ => rfl) fun v27 => hTake 8 rfl (by kernel_rfl) (by kernel_rfl) (by kernel_rfl) (gd0 rfl) rfl rfl (faB 1 rfl rfl Try.underlying105 rfl (by exact ti103)) <| hDoS 9 rfl (by kernel_rfl) (gd0 rfl) rfl rfl rfl rfl (stoE 1 rfl rfl (Swap.cast (Swap.next fills_rd (Swap.next fills_rd (Swap.next fills_val (Swap.here fills_val)))) rfl) rfl ones_val fills_val ti103) <| hTake 10 rfl (by kernel_rfl) (by kernel_rfl) (by kernel_rfl) (gd0 rfl) rfl rfl (asg rfl) <| hDone (by kernel_rfl) <| eBlk <| eThen <| gReg <| R rfl (mv rfl) <| R rfl (U.sub rfl rfl) <| R rfl (asg rfl) <| gNil <| eNext (fun aa ww h => ⟨nvl [v27], h.sub [30, 1] (sS rfl <| sS rfl <| sS rfl <| sS rfl <| sN) (rR rfl rfl <| rR rfl rfl <| rN)⟩)
                · skip
                  refine oFrz 32 [57, 9, 66] rfl (fS rfl <| fS rfl <| fS rfl <| fN) <| oDo 3 rfl (gd0 rfl) rfl rfl rfl (lit (R := (sliceR u8R)) ([r19.1] : List (List UInt8)) 42 (pP rfl rfl <| pN) rfl Try.underlying103 ti32 rfl rfl) (fun _ => rfl) fun v28 => hRun 1 rfl (by kernel_rfl) (gd0 rfl) rfl rfl flat_val (ldV 1 rfl rfl (At.cast (At.next fills_rd (At.next fills_rd (At.next fills_val At.here))) rfl) sc103 rfl) <| hFrz 42 [67] rfl (fS rfl <| fN) <| hBind fun x29 h30 => hDo 4 rfl (by kernel_rfl) (gd0 rfl) rfl rfl rfl (apn 30 rfl rfl rfl .rd h30 Try.underlying103 ti32 rfl rfl rfl) (fun _ => rfl) fun v31 => hTake 8 rfl (by kernel_rfl) (by kernel_rfl) (by kernel_rfl) (gd0 rfl) rfl rfl (faB 1 rfl rfl Try.underlying105 rfl (by exact ti103)) <| hDoS 9 rfl (by kernel_rfl) (gd0 rfl) rfl rfl rfl rfl (stoE 1 rfl rfl (Swap.cast (Swap.next fills_rd (Swap.next fills_rd (Swap.next fills_val (Swap.here fills_val)))) rfl) rfl ones_val fills_val ti103) <| hTake 10 rfl (by kernel_rfl) (by kernel_rfl) (by kernel_rfl) (gd0 rfl) rfl rfl (asg rfl) <| hDone (by kernel_rfl) <| eBlk <| eThen <| gReg <| R rfl (mv rfl) <| R rfl (U.sub rfl rfl) <| R rfl (asg rfl) <| gNil <| eNext (fun aa ww h => ⟨nvl [v31], h.sub [30, 1] (sS rfl <| sS rfl <| sS rfl <| sS rfl <| sN) (rR rfl rfl <| rR rfl rfl <| rN)⟩)
            · skip
              refine gExit <| eTexit <| eLeave <| eBlk <| ePnl (arrR 32 u8R) [.rd u8R a0, .rd u64R 0, .rd (sliceR (arrR 32 u8R)) [], .val (n17 0)] 1 [.rd u8R a0, .rd u64R 0] [.val (n17 0)] rfl rfl rfl <| eMidR (fun aa ww h => ⟨nvl [(n17 0)], h.sub [30, 1] (sS rfl <| sS rfl <| sN) (rR rfl rfl <| rR rfl rfl <| rN)⟩)
      · skip
        refine gKn 33 rfl h8 <| gReg <| R rfl (mv rfl) <| call [] [] rfl Try.func26 rfl rfl (wire_ReadNumber_ok _) (aQ rfl <| aN) rN fun r32 n33 => R rfl (mv rfl) <| R rfl (ext rfl rfl) <| R rfl (ext rfl rfl) <| R rfl (ext rfl rfl) <| R rfl (faB 1 rfl rfl Try.underlying105 rfl (by exact ti31)) <| Es (sto 1 rfl rfl (Foc.cast (Foc.next fills_rd Foc.here) rfl) rfl ti31) <| R rfl (asg rfl) <| gNil <| eBlk <| ePnl (arrR 32 u8R) [.rd u8R a0, .rd u64R r32.1, .rd (sliceR (arrR 32 u8R)) [], .val (.slice none 0 0)] 1 [.rd u8R a0, .rd u64R r32.1] [.val (.slice none 0 0)] rfl rfl rfl <| eNew (sliceR u8R) 32 69 <| eMidR (fun aa ww h => ⟨nvl [(.slice none 0 0)], h.sub [69, 1] (sS rfl <| sS rfl <| sN) (rR rfl rfl <| rR rfl rfl <| rN)⟩)
  · skip
    refine gEx fun n34 => gSeq <| gReg <| lPow [.rd u8R a0, .rd u64R s2.1, .rd (sliceR (arrR 32 u8R)) s2.2.1, .rd (sliceR (sliceR u8R)) s2.2.2.1] 1 15 [.rd u8R a0, .rd u64R s2.1, .rd (sliceR (arrR 32 u8R)) s2.2.1] [] rfl rfl rfl rfl rfl <| lJoi (R := R_api_Frame) (⟨a0, s2.1, s2.2.1, s2.2.2.1⟩ : api_Frame) 1 rfl (Sp.via (Sp.prod (Sp.prod (Sp.prod (Sp.prod Sp.unit))))) <| R rfl (ld 1 rfl rfl Foc.here ty105 rfl) <| R rfl (mv rfl) <| Es (sto 1 rfl rfl Foc.here rfl ti105) <| R rfl (asg rfl) <| gNil <| eThen <| gRet <| eRet [] [] rfl (eC 1 rfl rfl ty105 <| eE rfl <| eN) (rN)
def bytes_Equal (a0 : List UInt8) (a1 : List UInt8) : Option (Bool) :=
  some (a0 == a1)
set_option maxRecDepth 100000 in
theorem bytes_Equal_ok (a0 : List UInt8) (a1 : List UInt8) : Spec Try.prog 126 [.rd (sliceR u8R) a0, .rd (sliceR u8R) a1] [] (bytes_Equal a0 a1) (fun r nv => ⟨[.rd boolR r], []⟩) := by
  refine spec 10 Try.func126 rfl rfl rfl fun H w => ?_
  refine gSeq <| gReg <| R rfl (asg rfl) <| gNil <| eThen <| gSeq <| gReg <| R rfl (mv rfl) <| R rfl (cvBS rfl Try.underlying32 Try.underlying5 Try.underlying9) <| R rfl (mv rfl) <| R rfl (cvBS rfl Try.underlying32 Try.underlying5 Try.underlying9) <| R rfl (eqS rfl rfl) <| R rfl (asg rfl) <| gNil <| eThen <| gRet <| eRet [] [] rfl (eE rfl <| eN) (rN)
def frame_Parse (a0 : List UInt8) : Option (api_Frame × Int) :=
  (if (a0.length : Int) == 0 then
    some true
  else
    some (decide (2000 < (a0.length : Int)))) >>= fun s2 =>
  if s2 then
    some ((⟨0, 0, [], []⟩ : api_Frame), 12)
  else
    (idx a0 0 >>= fun x6 =>
    cut a0 1 (a0.length : Int) >>= fun x8 =>
    frame_read x6 x8 >>= fun r10 =>
    some (r10.1, r10.2)) >>= fun s5 =>
    if s5.2 != 0 then
      some ((⟨0, 0, [], []⟩ : api_Frame), 12)
    else
      frame_write s5.1 >>= fun r18 =>
      (if !r18.2 then
        some true
      else
        bytes_Equal r18.1 a0 >>= fun r22 =>
        some (!r22)) >>= fun s20 =>
      if s20 then
        some ((⟨0, 0, [], []⟩ : api_Frame), 12)
      else
        some (s5.1, 0)
set_option maxRecDepth 100000 in
theorem frame_Parse_ok (a0 : List UInt8) : Spec Try.prog 79 [.rd (sliceR u8R) a0] [] (frame_Parse a0) (fun r nv => ⟨[.rd R_api_Frame r.1, .rd i64R r.2], []⟩) := by
  refine spec 44 Try.func79 rfl rfl rfl fun H w => ?_
  refine gSeq <| gReg <| Eb rfl (allc 1 ti105 (ZrE.rd (R := u8R) (x := 0) (Zr.num rfl) (ZrE.rd (R := u64R) (x := 0) (Zr.num rfl) (ZrE.nilS (ZrE.nilS ZrE.nil)) rfl) rfl)) fun v1 => R rfl (asg rfl) <| gNil <| eThen <| gSeq <| gMid (fun (s2 : Bool) aa ww => Sta (ctx 44 H [] w) [(0, .rd (sliceR u8R) a0), (2, .val (ptrTo v1 0)), (15, .rd boolR s2)] [(1, some (v1, .box 105 [.rd u8R 0, .rd u64R 0, .val (.slice none 0 0), .val (.slice none 0 0)]))] aa ww) ?_ (fun s2 => ?_)
  · skip
    refine gReg <| R rfl (mv rfl) <| R rfl (len' rfl .rd rfl Try.underlying32) <| R rfl (I.eql rfl rfl) <| R rfl (mv rfl) <| lSplit 11 rfl (fun h3 => ?_) (fun h3 => ?_)
    · skip
      refine lKn 10 rfl h3 <| lSkip (gd rfl rfl rfl rfl) rfl rfl <| lSkip (gd rfl rfl rfl rfl) rfl rfl <| lSkip (gd rfl rfl rfl rfl) rfl rfl <| R rfl (pkT rfl rfl) <| gNil <| eMid (fun aa ww h => h.sub [1] (sS rfl <| sS rfl <| sS rfl <| sN) (rR rfl rfl <| rN))
    · skip
      refine lKn 10 rfl h3 <| lRun (gd rfl rfl rfl rfl) rfl rfl (mv rfl) <| lRun (gd rfl rfl rfl rfl) rfl rfl (len' rfl .rd rfl Try.underlying32) <| lRun (gd rfl rfl rfl rfl) rfl rfl (I.gtr rfl rfl) <| R rfl (pkF rfl rfl) <| gNil <| eMid (fun aa ww h => h.sub [1] (sS rfl <| sS rfl <| sS rfl <| sN) (rR rfl rfl <| rN))
  · skip
    refine gIf rfl rfl (fun h4 => ?_) (fun h4 => ?_)
    · skip
      refine gSeq <| gReg <| R rfl (bldE [(0, 1), (1, 1), (2, 1), (3, 1)] Try.underlying105 ti105 (ZrE.rd (R := u8R) (x := 0) (Zr.num rfl) (ZrE.rd (R := u64R) (x := 0) (Zr.num rfl) (ZrE.nilS (ZrE.nilS ZrE.nil)) rfl) rfl) rfl (BldE.done rfl)) <| Es (stoG 1 rfl rfl (fillsL.cast (fillsL.cons fills_rd (fillsL.cons fills_rd (fillsL.cons fills_val (fillsL.cons fills_val fillsL.nil)))) rfl) rfl (onesL.cons ones_rd (onesL.cons ones_rd (onesL.cons ones_val (onesL.cons ones_val onesL.nil)))) (fillsL.cast (fillsL.cons fills_rd (fillsL.cons fills_rd (fillsL.cons fills_val (fillsL.cons fills_val fillsL.nil)))) rfl) ti105) <| R rfl (asg rfl) <| gNil <| eThen <| gRet <| eTret <| ePnl (arrR 32 u8R) [.rd u8R 0, .rd u64R 0, .rd (sliceR (arrR 32 u8R)) [], .val (.slice none 0 0)] 1 [.rd u8R 0, .rd u64R 0] [.val (.slice none 0 0)] rfl rfl rfl <| ePnl (sliceR u8R) [.rd u8R 0, .rd u64R 0, .rd (sliceR (arrR 32 u8R)) [], .rd (sliceR (sliceR u8R)) []] 1 [.rd u8R 0, .rd u64R 0, .rd (sliceR (arrR 32 u8R)) []] [] rfl rfl rfl <| eJoi (R := R_api_Frame) (⟨0, 0, [], []⟩ : api_Frame) 1 rfl (Sp.via (Sp.prod (Sp.prod (Sp.prod (Sp.prod Sp.unit))))) <| eRet [] [] rfl (eC 1 rfl rfl ty105 <| eE rfl <| eN) (rN)
    · skip
      refine gSkip <| eThen <| gMid (fun (s5 : api_Frame × Int) aa ww => ∃ nv : Nat → Value, Sta (ctx 44 H [] w) [(0, .rd (sliceR u8R) a0), (2, .val (ptrTo v1 0)), (4, .val (ptrTo (nv 0) 0)), (5, .rd i64R s5.2)] [(1, some (v1, .box 105 [.rd u8R 0, .rd u64R 0, .val (.slice none 0 0), .val (.slice none 0 0)])), (29, some ((nv 0), .box 105 [.rd R_api_Frame s5.1]))] aa ww) ?_ (fun s5 => ?_)
      · skip
        refine gRegH [57] mixed rfl rfl <| hTake 0 rfl (by kernel_rfl) (by kernel_rfl) (by kernel_rfl) (gd0 rfl) rfl rfl (mv rfl) <| hBind fun x6 h7 => hTake 1 rfl (by kernel_rfl) (by kernel_rfl) (by kernel_rfl) (gd0 rfl) rfl rfl (ixR rfl rfl h7 Try.underlying32 ti5 rfl) <| hTake 2 rfl (by kernel_rfl) (by kernel_rfl) (by kernel_rfl) (gd0 rfl) rfl rfl (ldR rfl ty5) <| hTake 3 rfl (by kernel_rfl) (by kernel_rfl) (by kernel_rfl) (gd0 rfl) rfl rfl (mv rfl) <| hBind fun x8 h9 => hTake 4 rfl (by kernel_rfl) (by kernel_rfl) (by kernel_rfl) (gd0 rfl) rfl rfl (cut' rfl (.to rfl) .no h9 Try.underlying32 ti5) <| hAlt [5, 9] (by kernel_rfl) rfl ⟨?_, ?_, trivial⟩
        · skip
          refine oCallJ 5 [] [] rfl rfl (gd0 rfl) rfl Try.func125 rfl rfl (frame_read_ok _ _) (aQ rfl <| aQ rfl <| aN) rN rfl fun r10 n11 => hTakeP 6 rfl (by kernel_rfl) (by kernel_rfl) (by kernel_rfl) (gd0 rfl) rfl rfl (mv rfl) <| hTakeP 7 rfl (by kernel_rfl) (by kernel_rfl) (by kernel_rfl) (gd0 rfl) rfl rfl (ext rfl rfl) <| hTakeF 8 rfl (by kernel_rfl) (by kernel_rfl) (by kernel_rfl) (gd0 rfl) rfl rfl flat_num (ext rfl rfl) <| hDoB 9 rfl (by kernel_rfl) (gd0 rfl) rfl rfl rfl (allc 57 ti105 (ZrE.rd (R := u8R) (x := 0) (Zr.num rfl) (ZrE.rd (R := u64R) (x := 0) (Zr.num rfl) (ZrE.nilS (ZrE.nilS ZrE.nil)) rfl) rfl)) fun v12 => hPnl (arrR 32 u8R) [.rd u8R 0, .rd u64R 0, .rd (sliceR (arrR 32 u8R)) [], .val (.slice none 0 0)] 57 [.rd u8R 0, .rd u64R 0] [.val (.slice none 0 0)] rfl rfl rfl <| hPnl (sliceR u8R) [.rd u8R 0, .rd u64R 0, .rd (sliceR (arrR 32 u8R)) [], .rd (sliceR (sliceR u8R)) []] 57 [.rd u8R 0, .rd u64R 0, .rd (sliceR (arrR 32 u8R)) []] [] rfl rfl rfl <| hJoi (R := R_api_Frame) (⟨0, 0, [], []⟩ : api_Frame) 57 rfl (Sp.via (Sp.prod (Sp.prod (Sp.prod (Sp.prod Sp.unit))))) <| hDoS 10 rfl (by kernel_rfl) (gd0 rfl) rfl rfl rfl rfl (sto 57 rfl rfl Foc.here rfl ti105) <| hTake 11 rfl (by kernel_rfl) (by kernel_rfl) (by kernel_rfl) (gd0 rfl) rfl rfl (asg rfl) <| hDone (by kernel_rfl) <| eMid (fun aa ww h => ⟨nvl [v12], h.sub [1, 57] (sS rfl <| sS rfl <| sS rfl <| sS rfl <| sN) (rR rfl rfl <| rR rfl rfl <| rN)⟩)
        · skip
          refine oDoB 9 rfl (gd0 rfl) rfl rfl rfl (allc 57 ti105 (ZrE.rd (R := u8R) (x := 0) (Zr.num rfl) (ZrE.rd (R := u64R) (x := 0) (Zr.num rfl) (ZrE.nilS (ZrE.nilS ZrE.nil)) rfl) rfl)) fun v13 => hCallJ 5 [] [] rfl (by kernel_rfl) rfl (gd0 rfl) rfl Try.func125 rfl rfl (frame_read_ok _ _) (aQ rfl <| aQ rfl <| aN) rN rfl fun r14 n15 => hTakeP 6 rfl (by kernel_rfl) (by kernel_rfl) (by kernel_rfl) (gd0 rfl) rfl rfl (mv rfl) <| hTakeP 7 rfl (by kernel_rfl) (by kernel_rfl) (by kernel_rfl) (gd0 rfl) rfl rfl (ext rfl rfl) <| hTakeF 8 rfl (by kernel_rfl) (by kernel_rfl) (by kernel_rfl) (gd0 rfl) rfl rfl flat_num (ext rfl rfl) <| hPnl (arrR 32 u8R) [.rd u8R 0, .rd u64R 0, .rd (sliceR (arrR 32 u8R)) [], .val (.slice none 0 0)] 57 [.rd u8R 0, .rd u64R 0] [.val (.slice none 0 0)] rfl rfl rfl <| hPnl (sliceR u8R) [.rd u8R 0, .rd u64R 0, .rd (sliceR (arrR 32 u8R)) [], .rd (sliceR (sliceR u8R)) []] 57 [.rd u8R 0, .rd u64R 0, .rd (sliceR (arrR 32 u8R)) []] [] rfl rfl rfl <| hJoi (R := R_api_Frame) (⟨0, 0, [], []⟩ : api_Frame) 57 rfl (Sp.via (Sp.prod (Sp.prod (Sp.prod (Sp.prod Sp.unit))))) <| hDoS 10 rfl (by kernel_rfl) (gd0 rfl) rfl rfl rfl rfl (sto 57 rfl rfl Foc.here rfl ti105) <| hTake 11 rfl (by kernel_rfl) (by kernel_rfl) (by kernel_rfl) (gd0 rfl) rfl rfl (asg rfl) <| hDone (by kernel_rfl) <| eMid (fun aa ww h => ⟨nvl [v13], h.sub [1, 57] (sS rfl <| sS rfl <| sS rfl <| sS rfl <| sN) (rR rfl rfl <| rR rfl rfl <| rN)⟩)
      · skip
        refine gEx fun n16 => gSeq <| gSeq <| gReg <| R rfl (mv rfl) <| R rfl (I.neq rfl rfl) <| gNil <| eThen <| gIf rfl rfl (fun h17 => ?_) (fun h17 => ?_)
        · skip
          refine gSeq <| gReg <| R rfl (bldE [(0, 1), (1, 1), (2, 1), (3, 1)] Try.underlying105 ti105 (ZrE.rd (R := u8R) (x := 0) (Zr.num rfl) (ZrE.rd (R := u64R) (x := 0) (Zr.num rfl) (ZrE.nilS (ZrE.nilS ZrE.nil)) rfl) rfl) rfl (BldE.done rfl)) <| Es (stoG 1 rfl rfl (fillsL.cast (fillsL.cons fills_rd (fillsL.cons fills_rd (fillsL.cons fills_val (fillsL.cons fills_val fillsL.nil)))) rfl) rfl (onesL.cons ones_rd (onesL.cons ones_rd (onesL.cons ones_val (onesL.cons ones_val onesL.nil)))) (fillsL.cast (fillsL.cons fills_rd (fillsL.cons fills_rd (fillsL.cons fills_val (fillsL.cons fills_val fillsL.nil)))) rfl) ti105) <| R rfl (asg rfl) <| gNil <| eThen <| gRet <| eTret <| ePnl (arrR 32 u8R) [.rd u8R 0, .rd u64R 0, .rd (sliceR (arrR 32 u8R)) [], .val (.slice none 0 0)] 1 [.rd u8R 0, .rd u64R 0] [.val (.slice none 0 0)] rfl rfl rfl <| ePnl (sliceR u8R) [.rd u8R 0, .rd u64R 0, .rd (sliceR (arrR 32 u8R)) [], .rd (sliceR (sliceR u8R)) []] 1 [.rd u8R 0, .rd u64R 0, .rd (sliceR (arrR 32 u8R)) []] [] rfl rfl rfl <| eJoi (R := R_api_Frame) (⟨0, 0, [], []⟩ : api_Frame) 1 rfl (Sp.via (Sp.prod (Sp.prod (Sp.prod (Sp.prod Sp.unit))))) <| eRet [] [] rfl (eC 1 rfl rfl ty105 <| eE rfl <| eN) (rN)
        · skip
          refine gSkip <| eThen <| gSeq <| gSeq <| gReg <| R rfl (ld 29 rfl rfl Foc.here ty105 rfl) <| call [] [(100, 69)] rfl Try.func119 rfl rfl (frame_write_ok _) (aQ rfl <| aN) rN fun r18 n19 => R rfl (mv rfl) <| R rfl (ext rfl rfl) <| R rfl (ext rfl rfl) <| R rfl (asg rfl) <| R rfl (asg rfl) <| gNil <| eThen <| gMid (fun (s20 : Bool) aa ww => Sta (ctx 44 H [] w) [(2, .val (ptrTo v1 0)), (4, .val (ptrTo (n16 0) 0)), (41, .rd boolR s20)] [(1, some (v1, .box 105 [.rd u8R 0, .rd u64R 0, .val (.slice none 0 0), .val (.slice none 0 0)])), (29, some ((n16 0), .box 105 [.rd R_api_Frame s5.1]))] aa ww) ?_ (fun s20 => ?_)
          · skip
            refine gReg <| R rfl (mv rfl) <| R rfl (not' rfl) <| R rfl (mv rfl) <| lSplit 36 rfl (fun h21 => ?_) (fun h21 => ?_)
            · skip
              refine lKn 35 rfl h21 <| lSkip (gd rfl rfl rfl rfl) rfl rfl <| lSkip (gd rfl rfl rfl rfl) rfl rfl <| lSkip (gd rfl rfl rfl rfl) rfl rfl <| lSkip (gd rfl rfl rfl rfl) rfl rfl <| R rfl (pkT rfl rfl) <| gNil <| eMid (fun aa ww h => h.sub [1, 29] (sS rfl <| sS rfl <| sS rfl <| sN) (rR rfl rfl <| rR rfl rfl <| rN))
            · skip
              refine lKn 35 rfl h21 <| lRun (gd rfl rfl rfl rfl) rfl rfl (mv rfl) <| lRun (gd rfl rfl rfl rfl) rfl rfl (mv rfl) <| lFrz 69 [32, 6, 37] rfl (fS rfl <| fS rfl <| fS rfl <| fN) <| callg [] [] (gd rfl rfl rfl rfl) rfl Try.func126 rfl rfl (bytes_Equal_ok _ _) (aQ rfl <| aQ rfl <| aN) rN fun r22 n23 => lRun (gd rfl rfl rfl rfl) rfl rfl (not' rfl) <| R rfl (pkF rfl rfl) <| gNil <| eMid (fun aa ww h => h.sub [1, 29] (sS rfl <| sS rfl <| sS rfl <| sN) (rR rfl rfl <| rR rfl rfl <| rN))
          · skip
            refine gIf rfl rfl (fun h24 => ?_) (fun h24 => ?_)
            · skip
              refine gSeq <| gReg <| R rfl (bldE [(0, 1), (1, 1), (2, 1), (3, 1)] Try.underlying105 ti105 (ZrE.rd (R := u8R) (x := 0) (Zr.num rfl) (ZrE.rd (R := u64R) (x := 0) (Zr.num rfl) (ZrE.nilS (ZrE.nilS ZrE.nil)) rfl) rfl) rfl (BldE.done rfl)) <| Es (stoG 1 rfl rfl (fillsL.cast (fillsL.cons fills_rd (fillsL.cons fills_rd (fillsL.cons fills_val (fillsL.cons fills_val fillsL.nil)))) rfl) rfl (onesL.cons ones_rd (onesL.cons ones_rd (onesL.cons ones_val (onesL.cons ones_val onesL.nil)))) (fillsL.cast (fillsL.cons fills_rd (fillsL.cons fills_rd (fillsL.cons fills_val (fillsL.cons fills_val fillsL.nil)))) rfl) ti105) <| R rfl (asg rfl) <| gNil <| eThen <| gRet <| eTret <| ePnl (arrR 32 u8R) [.rd u8R 0, .rd u64R 0, .rd (sliceR (arrR 32 u8R)) [], .val (.slice none 0 0)] 1 [.rd u8R 0, .rd u64R 0] [.val (.slice none 0 0)] rfl rfl rfl <| ePnl (sliceR u8R) [.rd u8R 0, .rd u64R 0, .rd (sliceR (arrR 32 u8R)) [], .rd (sliceR (sliceR u8R)) []] 1 [.rd u8R 0, .rd u64R 0, .rd (sliceR (arrR 32 u8R)) []] [] rfl rfl rfl <| eJoi (R := R_api_Frame) (⟨0, 0, [], []⟩ : api_Frame) 1 rfl (Sp.via (Sp.prod (Sp.prod (Sp.prod (Sp.prod Sp.unit))))) <| eRet [] [] rfl (eC 1 rfl rfl ty105 <| eE rfl <| eN) (rN)
            · skip
              refine gSkip <| eThen <| gSeq <| gReg <| R rfl (ld 29 rfl rfl Foc.here ty105 rfl) <| lPnl (arrR 32 u8R) [.rd u8R 0, .rd u64R 0, .rd (sliceR (arrR 32 u8R)) [], .val (.slice none 0 0)] 1 [.rd u8R 0, .rd u64R 0] [.val (.slice none 0 0)] rfl rfl rfl <| lPnl (sliceR u8R) [.rd u8R 0, .rd u64R 0, .rd (sliceR (arrR 32 u8R)) [], .rd (sliceR (sliceR u8R)) []] 1 [.rd u8R 0, .rd u64R 0, .rd (sliceR (arrR 32 u8R)) []] [] rfl rfl rfl <| lJoi (R := R_api_Frame) (⟨0, 0, [], []⟩ : api_Frame) 1 rfl (Sp.via (Sp.prod (Sp.prod (Sp.prod (Sp.prod Sp.unit))))) <| Es (sto 1 rfl rfl Foc.here rfl ti105) <| R rfl (asg rfl) <| gNil <| eThen <| gRet <| eRet [] [] rfl (eC 1 rfl rfl ty105 <| eE rfl <| eN) (rN)
def braidref01_SameBytes_L0 (a0 : List UInt8) (a1 : List UInt8) (s3 : Int) : Option (Sum (Sum Bool Unit) Int) :=
  if decide (s3 < (a0.length : Int)) then
    idx a0 s3 >>= fun x5 =>
    idx a1 s3 >>= fun x7 =>
    if x5 != x7 then
      some (.inl (.inl false))
    else
      some (.inr (w64 (s3 + 1)))
  else
    some (.inl (.inr ()))
def braidref01_SameBytes (a0 : List UInt8) (a1 : List UInt8) : Option (Bool) :=
  if (a0.length : Int) != (a1.length : Int) then
    some false
  else
    orRet (iter (braidref01_SameBytes_L0 a0 a1) 0) fun s2 =>
    some true
set_option maxRecDepth 100000 in
theorem braidref01_SameBytes_ok (a0 : List UInt8) (a1 : List UInt8) : Spec Try.prog 30 [.rd (sliceR u8R) a0, .rd (sliceR u8R) a1] [] (braidref01_SameBytes a0 a1) (fun r nv => ⟨[.rd boolR r], []⟩) := by
  refine spec 26 Try.func30 rfl rfl rfl fun H w => ?_
  refine gSeq <| gReg <| R rfl (asg rfl) <| gNil <| eThen <| gSeq <| gSeq <| gReg <| R rfl (mv rfl) <| R rfl (len' rfl .rd rfl Try.underlying32) <| R rfl (mv rfl) <| R rfl (len' rfl .rd rfl Try.underlying32) <| R rfl (I.neq rfl rfl) <| gNil <| eThen <| gIf rfl rfl (fun h1 => ?_) (fun h1 => ?_)
  · skip
    refine gSeq <| gReg <| R rfl (asg rfl) <| gNil <| eThen <| gRet <| eTret <| eRet [] [] rfl (eE rfl <| eN) (rN)
  · skip
    refine gSkip <| eThen <| gMidR (fun (s2 : Unit) aa ww => Sta (ctx 26 H [] w) [] [] aa ww) ?_ (fun s2 => ?_)
    · skip
      refine gSeq <| gReg <| R rfl (asg rfl) <| gNil <| eThen <| gLoop (fun (s3 : Int) aa ww => Sta (ctx 26 H [] w) [(0, .rd (sliceR u8R) a0), (1, .rd (sliceR u8R) a1), (5, .rd i64R s3)] [] aa ww) (fun aa ww h => h.sub [] (sS rfl <| sS rfl <| sS rfl <| sN) (rN)) (fun s3 => ?_)
      refine gSeq <| gSeq <| gReg <| R rfl (mv rfl) <| R rfl (mv rfl) <| R rfl (len' rfl .rd rfl Try.underlying32) <| R rfl (I.lss rfl rfl) <| gNil <| eThen <| gIf rfl rfl (fun h4 => ?_) (fun h4 => ?_)
      · skip
        refine gSkip <| eThen <| gSeq <| gBlk <| gSeq <| gRegQ mixed (by kernel_rfl) <| Rq rfl (mv rfl) <| Rq rfl (mv rfl) <| qBind fun x5 h6 => Rq rfl (ixR rfl rfl h6 Try.underlying32 ti5 rfl) <| Rq rfl (ldR rfl ty5) <| Rq rfl (mv rfl) <| Rq rfl (mv rfl) <| qBind fun x7 h8 => Rq rfl (ixR rfl rfl h8 Try.underlying32 ti5 rfl) <| Rq rfl (ldR rfl ty5) <| Rq rfl (B.neq rfl rfl) <| qNil <| eThen <| gIf rfl rfl (fun h9 => ?_) (fun h9 => ?_)
        · skip
          refine gSeq <| gReg <| R rfl (asg rfl) <| gNil <| eThen <| gRet <| eBret <| eTret <| eLret <| eMret <| eRet [] [] rfl (eE rfl <| eN) (rN)
        · skip
          refine gSkip <| eBlk <| eThen <| gReg <| R rfl (mv rfl) <| R rfl (I.add rfl rfl) <| R rfl (asg rfl) <| gNil <| eNext (fun aa ww h => h.sub [] (sS rfl <| sS rfl <| sS rfl <| sN) (rN))
      · skip
        refine gExit <| eTexit <| eLeave <| eMidR (fun aa ww h => h.sub [] (sN) (rN))
    · skip
      refine gSeq <| gReg <| R rfl (asg rfl) <| gNil <| eThen <| gRet <| eRet [] [] rfl (eE rfl <| eN) (rN)
def braidref04_SameIDs_L0 (a0 : List (Vector UInt8 32)) (a1 : List (Vector UInt8 32)) (s3 : Int) : Option (Sum (Sum Bool Unit) Int) :=
  if decide (s3 < (a0.length : Int)) then
    idx a0 s3 >>= fun x5 =>
    idx a1 s3 >>= fun x7 =>
    if !decide (x5 = x7) then
      some (.inl (.inl false))
    else
      some (.inr (w64 (s3 + 1)))
  else
    some (.inl (.inr ()))
def braidref04_SameIDs (a0 : List (Vector UInt8 32)) (a1 : List (Vector UInt8 32)) : Option (Bool) :=
  if (a0.length : Int) != (a1.length : Int) then
    some false
  else
    orRet (iter (braidref04_SameIDs_L0 a0 a1) 0) fun s2 =>
    some true
set_option maxRecDepth 100000 in
theorem braidref04_SameIDs_ok (a0 : List (Vector UInt8 32)) (a1 : List (Vector UInt8 32)) : Spec Try.prog 62 [.rd (sliceR (arrR 32 u8R)) a0, .rd (sliceR (arrR 32 u8R)) a1] [] (braidref04_SameIDs a0 a1) (fun r nv => ⟨[.rd boolR r], []⟩) := by
  refine spec 26 Try.func62 rfl rfl rfl fun H w => ?_
  refine gSeq <| gReg <| R rfl (asg rfl) <| gNil <| eThen <| gSeq <| gSeq <| gReg <| R rfl (mv rfl) <| R rfl (len' rfl .rd rfl Try.underlying83) <| R rfl (mv rfl) <| R rfl (len' rfl .rd rfl Try.underlying83) <| R rfl (I.neq rfl rfl) <| gNil <| eThen <| gIf rfl rfl (fun h1 => ?_) (fun h1 => ?_)
  · skip
    refine gSeq <| gReg <| R rfl (asg rfl) <| gNil <| eThen <| gRet <| eTret <| eRet [] [] rfl (eE rfl <| eN) (rN)
  · skip
    refine gSkip <| eThen <| gMidR (fun (s2 : Unit) aa ww => Sta (ctx 26 H [] w) [] [] aa ww) ?_ (fun s2 => ?_)
    · skip
      refine gSeq <| gReg <| R rfl (asg rfl) <| gNil <| eThen <| gLoop (fun (s3 : Int) aa ww => Sta (ctx 26 H [] w) [(0, .rd (sliceR (arrR 32 u8R)) a0), (1, .rd (sliceR (arrR 32 u8R)) a1), (5, .rd i64R s3)] [] aa ww) (fun aa ww h => h.sub [] (sS rfl <| sS rfl <| sS rfl <| sN) (rN)) (fun s3 => ?_)
      refine gSeq <| gSeq <| gReg <| R rfl (mv rfl) <| R rfl (mv rfl) <| R rfl (len' rfl .rd rfl Try.underlying83) <| R rfl (I.lss rfl rfl) <| gNil <| eThen <| gIf rfl rfl (fun h4 => ?_) (fun h4 => ?_)
      · skip
        refine gSkip <| eThen <| gSeq <| gBlk <| gSeq <| gRegQ mixed (by kernel_rfl) <| Rq rfl (mv rfl) <| Rq rfl (mv rfl) <| qBind fun x5 h6 => Rq rfl (ixR rfl rfl h6 Try.underlying83 ti102 rfl) <| Rq rfl (ldR rfl ty102) <| Rq rfl (mv rfl) <| Rq rfl (mv rfl) <| qBind fun x7 h8 => Rq rfl (ixR rfl rfl h8 Try.underlying83 ti102 rfl) <| Rq rfl (ldR rfl ty102) <| Rq rfl (neA rfl rfl eq102 rfl rfl gq102) <| qNil <| eThen <| gIf rfl rfl (fun h9 => ?_) (fun h9 => ?_)
        · skip
          refine gSeq <| gReg <| R rfl (asg rfl) <| gNil <| eThen <| gRet <| eBret <| eTret <| eLret <| eMret <| eRet [] [] rfl (eE rfl <| eN) (rN)
        · skip
          refine gSkip <| eBlk <| eThen <| gReg <| R rfl (mv rfl) <| R rfl (I.add rfl rfl) <| R rfl (asg rfl) <| gNil <| eNext (fun aa ww h => h.sub [] (sS rfl <| sS rfl <| sS rfl <| sN) (rN))
      · skip
        refine gExit <| eTexit <| eLeave <| eMidR (fun aa ww h => h.sub [] (sN) (rN))
    · skip
      refine gSeq <| gReg <| R rfl (asg rfl) <| gNil <| eThen <| gRet <| eRet [] [] rfl (eE rfl <| eN) (rN)
def braidref07_Same_L0 (a0 : api_Frame) (a1 : api_Frame) (s11 : Int) : Option (Sum (Sum Bool Unit) Int) :=
  if decide (s11 < (a0.Ops.length : Int)) then
    idx a0.Ops s11 >>= fun x13 =>
    idx a1.Ops s11 >>= fun x15 =>
    braidref01_SameBytes x13 x15 >>= fun r17 =>
    if !r17 then
      some (.inl (.inl false))
    else
      some (w64 (s11 + 1)) >>= fun y20 =>
      some (.inr y20)
  else
    some (.inl (.inr ()))
def braidref07_Same (a0 : api_Frame) (a1 : api_Frame) : Option (Bool) :=
  (if a0.Kind != a1.Kind then
    some true
  else
    if a0.N != a1.N then
      some true
    else
      braidref04_SameIDs a0.IDs a1.IDs >>= fun r6 =>
      if !r6 then
        some true
      else
        some ((a0.Ops.length : Int) != (a1.Ops.length : Int))) >>= fun s3 =>
  if s3 then
    some false
  else
    orRet (iter (braidref07_Same_L0 a0 a1) 0) fun s10 =>
    some true
set_option maxRecDepth 100000 in
theorem braidref07_Same_ok (a0 : api_Frame) (a1 : api_Frame) : Spec Try.prog 78 [.rd R_api_Frame a0, .rd R_api_Frame a1] [] (braidref07_Same a0 a1) (fun r nv => ⟨[.rd boolR r], []⟩) := by
  refine spec 54 Try.func78 rfl rfl rfl fun H w => ?_
  refine gSeq <| gReg <| Eb rfl (bx 1 rfl) fun v1 => Eb rfl (bx 2 rfl) fun v2 => R rfl (asg rfl) <| gNil <| eThen <| gSeq <| gMid (fun (s3 : Bool) aa ww => Sta (ctx 54 H [] w) [(2, .val (ptrTo v1 0)), (3, .val (ptrTo v2 0)), (34, .rd boolR s3)] [(1, some (v1, .box 105 [.rd R_api_Frame a0])), (2, some (v2, .box 105 [.rd R_api_Frame a1]))] aa ww) ?_ (fun s3 => ?_)
  · skip
    refine gReg <| R rfl (faB 1 rfl rfl Try.underlying105 rfl (by exact ti5)) <| R rfl (ld 1 rfl rfl ((Foc.here).part (pt_api_Frame_Kind _)) ty5 rfl) <| R rfl (faB 2 rfl rfl Try.underlying105 rfl (by exact ti5)) <| R rfl (ld 2 rfl rfl ((Foc.here).part (pt_api_Frame_Kind _)) ty5 rfl) <| R rfl (B.neq rfl rfl) <| R rfl (mv rfl) <| lSplit 11 rfl (fun h4 => ?_) (fun h4 => ?_)
    · skip
      refine lKn 10 rfl h4 <| lSkip (gd rfl rfl rfl rfl) rfl rfl <| lSkip (gd rfl rfl rfl rfl) rfl rfl <| lSkip (gd rfl rfl rfl rfl) rfl rfl <| lSkip (gd rfl rfl rfl rfl) rfl rfl <| lSkip (gd rfl rfl rfl rfl) rfl rfl <| R rfl (pkT rfl rfl) <| R rfl (mv rfl) <| lSkip (gd rfl rfl rfl rfl) rfl rfl <| lSkip (gd rfl rfl rfl rfl) rfl rfl <| lSkip (gd rfl rfl rfl rfl) rfl rfl <| lSkip (gd rfl rfl rfl rfl) rfl rfl <| lSkip (gd rfl rfl rfl rfl) rfl rfl <| lSkip (gd rfl rfl rfl rfl) rfl rfl <| R rfl (pkT rfl rfl) <| R rfl (mv rfl) <| lSkip (gd rfl rfl rfl rfl) rfl rfl <| lSkip (gd rfl rfl rfl rfl) rfl rfl <| lSkip (gd rfl rfl rfl rfl) rfl rfl <| lSkip (gd rfl rfl rfl rfl) rfl rfl <| lSkip (gd rfl rfl rfl rfl) rfl rfl <| lSkip (gd rfl rfl rfl rfl) rfl rfl <| lSkip (gd rfl rfl rfl rfl) rfl rfl <| R rfl (pkT rfl rfl) <| gNil <| eMid (fun aa ww h => h.sub [1, 2] (sS rfl <| sS rfl <| sS rfl <| sN) (rR rfl rfl <| rR rfl rfl <| rN))
    · skip
      refine lKn 10 rfl h4 <| lRun (gd rfl rfl rfl rfl) rfl rfl (faB 1 rfl rfl Try.underlying105 rfl (by exact ti31)) <| lRun (gd rfl rfl rfl rfl) rfl rfl (ld 1 rfl rfl ((Foc.here).part (pt_api_Frame_N _)) ty31 rfl) <| lRun (gd rfl rfl rfl rfl) rfl rfl (faB 2 rfl rfl Try.underlying105 rfl (by exact ti31)) <| lRun (gd rfl rfl rfl rfl) rfl rfl (ld 2 rfl rfl ((Foc.here).part (pt_api_Frame_N _)) ty31 rfl) <| lRun (gd rfl rfl rfl rfl) rfl rfl (U.neq rfl rfl) <| R rfl (pkF rfl rfl) <| R rfl (mv rfl) <| lSplit 18 rfl (fun h5 => ?_) (fun h5 => ?_)
      · skip
        refine lKn 16 rfl h5 <| lKn 17 rfl h5 <| lSkip (gd rfl rfl rfl rfl) rfl rfl <| lSkip (gd rfl rfl rfl rfl) rfl rfl <| lSkip (gd rfl rfl rfl rfl) rfl rfl <| lSkip (gd rfl rfl rfl rfl) rfl rfl <| lSkip (gd rfl rfl rfl rfl) rfl rfl <| lSkip (gd rfl rfl rfl rfl) rfl rfl <| R rfl (pkT rfl rfl) <| R rfl (mv rfl) <| lSkip (gd rfl rfl rfl rfl) rfl rfl <| lSkip (gd rfl rfl rfl rfl) rfl rfl <| lSkip (gd rfl rfl rfl rfl) rfl rfl <| lSkip (gd rfl rfl rfl rfl) rfl rfl <| lSkip (gd rfl rfl rfl rfl) rfl rfl <| lSkip (gd rfl rfl rfl rfl) rfl rfl <| lSkip (gd rfl rfl rfl rfl) rfl rfl <| R rfl (pkT rfl rfl) <| gNil <| eMid (fun aa ww h => h.sub [1, 2] (sS rfl <| sS rfl <| sS rfl <| sN) (rR rfl rfl <| rR rfl rfl <| rN))
      · skip
        refine lKn 16 rfl h5 <| lKn 17 rfl h5 <| lRun (gd rfl rfl rfl rfl) rfl rfl (faB 1 rfl rfl Try.underlying105 rfl (by exact ti83)) <| lRun (gd rfl rfl rfl rfl) rfl rfl (ld 1 rfl rfl ((Foc.here).part (pt_api_Frame_IDs _)) ty83 rfl) <| lRun (gd rfl rfl rfl rfl) rfl rfl (faB 2 rfl rfl Try.underlying105 rfl (by exact ti83)) <| lRun (gd rfl rfl rfl rfl) rfl rfl (ld 2 rfl rfl ((Foc.here).part (pt_api_Frame_IDs _)) ty83 rfl) <| callg [] [] (gd rfl rfl rfl rfl) rfl Try.func62 rfl rfl (braidref04_SameIDs_ok _ _) (aQ rfl <| aQ rfl <| aN) rN fun r6 n7 => lRun (gd rfl rfl rfl rfl) rfl rfl (not' rfl) <| R rfl (pkF rfl rfl) <| R rfl (mv rfl) <| lSplit 26 rfl (fun h8 => ?_) (fun h8 => ?_)
        · skip
          refine lKn 24 rfl h8 <| lKn 25 rfl h8 <| lSkip (gd rfl rfl rfl rfl) rfl rfl <| lSkip (gd rfl rfl rfl rfl) rfl rfl <| lSkip (gd rfl rfl rfl rfl) rfl rfl <| lSkip (gd rfl rfl rfl rfl) rfl rfl <| lSkip (gd rfl rfl rfl rfl) rfl rfl <| lSkip (gd rfl rfl rfl rfl) rfl rfl <| lSkip (gd rfl rfl rfl rfl) rfl rfl <| R rfl (pkT rfl rfl) <| gNil <| eMid (fun aa ww h => h.sub [1, 2] (sS rfl <| sS rfl <| sS rfl <| sN) (rR rfl rfl <| rR rfl rfl <| rN))
        · skip
          refine lKn 24 rfl h8 <| lKn 25 rfl h8 <| lRun (gd rfl rfl rfl rfl) rfl rfl (faB 1 rfl rfl Try.underlying105 rfl (by exact ti103)) <| lRun (gd rfl rfl rfl rfl) rfl rfl (ld 1 rfl rfl ((Foc.here).part (pt_api_Frame_Ops _)) ty103 rfl) <| lRun (gd rfl rfl rfl rfl) rfl rfl (len' rfl .rd rfl Try.underlying103) <| lRun (gd rfl rfl rfl rfl) rfl rfl (faB 2 rfl rfl Try.underlying105 rfl (by exact ti103)) <| lRun (gd rfl rfl rfl rfl) rfl rfl (ld 2 rfl rfl ((Foc.here).part (pt_api_Frame_Ops _)) ty103 rfl) <| lRun (gd rfl rfl rfl rfl) rfl rfl (len' rfl .rd rfl Try.underlying103) <| lRun (gd rfl rfl rfl rfl) rfl rfl (I.neq rfl rfl) <| R rfl (pkF rfl rfl) <| gNil <| eMid (fun aa ww h => h.sub [1, 2] (sS rfl <| sS rfl <| sS rfl <| sN) (rR rfl rfl <| rR rfl rfl <| rN))
  · skip
    refine gIf rfl rfl (fun h9 => ?_) (fun h9 => ?_)
    · skip
      refine gSeq <| gReg <| R rfl (asg rfl) <| gNil <| eThen <| gRet <| eTret <| eRet [] [] rfl (eE rfl <| eN) (rN)
    · skip
      refine gSkip <| eThen <| gMidR (fun (s10 : Unit) aa ww => Sta (ctx 54 H [] w) [] [] aa ww) ?_ (fun s10 => ?_)
      · skip
        refine gSeq <| gReg <| R rfl (asg rfl) <| gNil <| eThen <| gLoop (fun (s11 : Int) aa ww => Sta (ctx 54 H [] w) [(2, .val (ptrTo v1 0)), (3, .val (ptrTo v2 0)), (5, .rd i64R s11)] [(1, some (v1, .box 105 [.rd R_api_Frame a0])), (2, some (v2, .box 105 [.rd R_api_Frame a1]))] aa ww) (fun aa ww h => h.sub [1, 2] (sS rfl <| sS rfl <| sS rfl <| sN) (rR rfl rfl <| rR rfl rfl <| rN)) (fun s11 => ?_)
        refine gSeq <| gSeq <| gReg <| R rfl (mv rfl) <| R rfl (faB 1 rfl rfl Try.underlying105 rfl (by exact ti103)) <| R rfl (ld 1 rfl rfl ((Foc.here).part (pt_api_Frame_Ops _)) ty103 rfl) <| R rfl (len' rfl .rd rfl Try.underlying103) <| R rfl (I.lss rfl rfl) <| gNil <| eThen <| gIf rfl rfl (fun h12 => ?_) (fun h12 => ?_)
        · skip
          refine gSkip <| eThen <| gSeq <| gBlk <| gSeq <| gRegH [] mixed rfl rfl <| hTake 0 rfl (by kernel_rfl) (by kernel_rfl) (by kernel_rfl) (gd0 rfl) rfl rfl (faB 1 rfl rfl Try.underlying105 rfl (by exact ti103)) <| hTake 1 rfl (by kernel_rfl) (by kernel_rfl) (by kernel_rfl) (gd0 rfl) rfl rfl (ld 1 rfl rfl ((Foc.here).part (pt_api_Frame_Ops _)) ty103 rfl) <| hTake 2 rfl (by kernel_rfl) (by kernel_rfl) (by kernel_rfl) (gd0 rfl) rfl rfl (mv rfl) <| hBind fun x13 h14 => hTake 3 rfl (by kernel_rfl) (by kernel_rfl) (by kernel_rfl) (gd0 rfl) rfl rfl (ixR rfl rfl h14 Try.underlying103 ti32 rfl) <| hTake 4 rfl (by kernel_rfl) (by kernel_rfl) (by kernel_rfl) (gd0 rfl) rfl rfl (ldR rfl ty32) <| hTake 5 rfl (by kernel_rfl) (by kernel_rfl) (by kernel_rfl) (gd0 rfl) rfl rfl (faB 2 rfl rfl Try.underlying105 rfl (by exact ti103)) <| hTake 6 rfl (by kernel_rfl) (by kernel_rfl) (by kernel_rfl) (gd0 rfl) rfl rfl (ld 2 rfl rfl ((Foc.here).part (pt_api_Frame_Ops _)) ty103 rfl) <| hTake 7 rfl (by kernel_rfl) (by kernel_rfl) (by kernel_rfl) (gd0 rfl) rfl rfl (mv rfl) <| hBind fun x15 h16 => hTake 8 rfl (by kernel_rfl) (by kernel_rfl) (by kernel_rfl) (gd0 rfl) rfl rfl (ixR rfl rfl h16 Try.underlying103 ti32 rfl) <| hTake 9 rfl (by kernel_rfl) (by kernel_rfl) (by kernel_rfl) (gd0 rfl) rfl rfl (ldR rfl ty32) <| hCallF 10 [] [] rfl (by kernel_rfl) rfl (gd0 rfl) rfl Try.func30 rfl rfl (braidref01_SameBytes_ok _ _) (aQ rfl <| aQ rfl <| aN) rN rfl (fun _ _ => flat_bool) fun r17 n18 => hTake 11 rfl (by kernel_rfl) (by kernel_rfl) (by kernel_rfl) (gd0 rfl) rfl rfl (not' rfl) <| hDone (by kernel_rfl) <| eThen <| gIf rfl rfl (fun h19 => ?_) (fun h19 => ?_)
          · skip
            refine gSeq <| gReg <| R rfl (asg rfl) <| gNil <| eThen <| gRet <| eBret <| eTret <| eLret <| eMret <| eRet [] [] rfl (eE rfl <| eN) (rN)
          · skip
            refine gSkip <| eBlk <| eThen <| gReg <| R rfl (mv rfl) <| R rfl (I.add rfl rfl) <| R rfl (asg rfl) <| lName 5 rfl fun y20 => gNil <| eNext (fun aa ww h => h.sub [1, 2] (sS rfl <| sS rfl <| sS rfl <| sN) (rR rfl rfl <| rR rfl rfl <| rN))
        · skip
          refine gExit <| eTexit <| eLeave <| eMidR (fun aa ww h => h.sub [] (sN) (rN))
      · skip
        refine gSeq <| gReg <| R rfl (asg rfl) <| gNil <| eThen <| gRet <| eRet [] [] rfl (eE rfl <| eN) (rN)
end Go.Proofs.Ytklfgpdfongaeaa
namespace Go.Proofs.Ytklfgpdfongaeaa
open Go
set_option linter.unusedSimpArgs false
set_option linter.unusedVariables false
theorem same_from (a b : List UInt8) (hl : a.length = b.length) (hb : a.length ≤ 9223372036854775807) : ∀ (n i : Nat), a.length - i = n → i ≤ a.length → a.take i = b.take i →
    iter (braidref01_SameBytes_L0 a b) (i : Int) = some (if a = b then .inr () else .inl false) := by
  intro n
  induction n with
  | zero =>
    intro i hn hi he
    have : i = a.length := by omega
    subst this
    refine iter_l ?_
    unfold braidref01_SameBytes_L0
    have e : a = b := by rw [List.take_length, hl, List.take_length] at he; exact he
    rw [if_neg (by simp), if_pos e]
  | succ n ih =>
    intro i hn hi he
    have h1 : i < a.length := by omega
    have h2 : i < b.length := by omega
    have hF : braidref01_SameBytes_L0 a b (i : Int) = if a[i] = b[i] then some (.inr ((i + 1 : Nat) : Int)) else some (.inl (.inl false)) := by
      unfold braidref01_SameBytes_L0
      rw [if_pos (by simp <;> omega)]
      simp only [idx_nat h1, idx_nat h2, bs, w64_nat (show i < 9223372036854775807 by omega)]
      by_cases h : a[i] = b[i] <;> simp [h]
    by_cases h : a[i] = b[i]
    · rw [if_pos h] at hF
      rw [iter_r hF]
      exact ih (i + 1) (by omega) (by omega) (by rw [List.take_succ_eq_append_getElem h1, List.take_succ_eq_append_getElem h2, he, h])
    · rw [if_neg h] at hF
      rw [iter_l hF, if_neg (fun e => h (by subst e; rfl))]
theorem sameB_eq (a b : List UInt8) (hb : a.length ≤ 9223372036854775807) : braidref01_SameBytes a b = some (decide (a = b)) := by
  unfold braidref01_SameBytes
  by_cases hl : a.length = b.length
  · rw [if_neg (by simp [hl])]
    have := same_from a b hl hb _ 0 rfl (by omega) (by simp)
    rw [show (0 : Int) = ((0 : Nat) : Int) from rfl, this]
    by_cases h : a = b
    · rw [if_pos h, decide_eq_true h]; rfl
    · rw [if_neg h, decide_eq_false h]; rfl
  · rw [if_pos (by simp; omega), decide_eq_false (fun e => hl (by rw [e]))]
theorem ofInt_toNat (n : Int) : (UInt64.ofInt n).toNat = (n % 18446744073709551616).toNat := by
  simp [UInt64.ofInt]; omega
end Go.Proofs.Ytklfgpdfongaeaa
namespace Go.Proofs.Ytklfgpdfongaeaa
open Go
set_option linter.unusedSimpArgs false
set_option linter.unusedVariables false
theorem or8 (a : UInt64) (x : UInt8) (h : a.toNat < 72057594037927936) : (shl64 a 8 ||| x.toUInt64).toNat = 256 * a.toNat + x.toNat := by
  have hx := x.toNat_lt
  rw [UInt64.toNat_or, shl64_toNat, show (2 : Nat) ^ min 8 64 = 256 from rfl, Nat.mod_eq_of_lt (by omega), UInt8.toNat_toUInt64]
  have := Nat.two_pow_add_eq_or_of_lt (i := 8) (b := x.toNat) (by omega) a.toNat
  rw [Nat.mul_comm a.toNat 256]; exact this.symm
theorem u64_of {a : UInt64} {n : Nat} (h : a.toNat = n) : a = UInt64.ofNat n := by rw [← h]; simp
theorem getD_get {l : List UInt8} {i : Nat} (h : i < l.length) : l.getD i 0 = l[i] := by simp [List.getD, h]
theorem rdn_L0 (l : List UInt8) (h8 : l.length ≤ 8) : iter (wire_ReadNumber_L0 l) (0, 0) = some (UInt64.ofNat (beVal l)) := by
  obtain ⟨b, h1, h2⟩ := iter_up (F := wire_ReadNumber_L0 l) l.length (fun i s => s.1.toNat = beVal (l.take i) ∧ s.2 = (i : Int)) (fun b => b = UInt64.ofNat (beVal l))
    (fun i s hi hs => by
      obtain ⟨s1, s2⟩ := s
      obtain ⟨e1, e2⟩ := hs
      simp only at e1 e2
      subst e2
      have hb := beVal_take_lt hi h8
      have ht := beVal_take hi
      rw [getD_get hi] at hb ht
      refine ⟨_, by unfold wire_ReadNumber_L0; rw [if_pos (by simp <;> omega)]; simp only [idx_nat hi, bs]; rfl, ?_, ?_⟩
      · show (shl64 s1 8 ||| l[i].toUInt64).toNat = _
        rw [or8 s1 l[i] (by omega), ht, e1]
      · exact w64_nat (by omega))
    (fun s hs => by
      obtain ⟨s1, s2⟩ := s
      obtain ⟨e1, e2⟩ := hs
      simp only at e1 e2
      subst e2
      refine ⟨_, by unfold wire_ReadNumber_L0; rw [if_neg (by simp)], ?_⟩
      rw [List.take_length] at e1
      exact u64_of e1) (0, 0) 0 (by omega) ⟨rfl, rfl⟩
  rw [h1, h2]
theorem le247 (x : UInt8) : decide (x ≤ 247) = decide (x.toNat ≤ 247) := by
  rw [decide_eq_decide, UInt8.le_iff_toNat_le]; rfl
theorem u8z (x : UInt8) : (x == 0) = decide (x.toNat = 0) := by
  rw [Bool.eq_iff_iff, beq_iff_eq, decide_eq_true_eq, ← UInt8.toNat_inj]; rfl
theorem rdNum_eq (b : List UInt8) (hb : b.length ≤ 9223372036854775807) : wire_ReadNumber b = some (UInt64.ofNat (readN b).1, ((readN b).2.1 : Int), ((readN b).2.2 : Int)) := by
  unfold wire_ReadNumber
  by_cases h0 : b.length = 0
  · rw [if_pos (by simp [h0]), readN_none (readNum_nil h0)]; rfl
  rw [if_neg (by simp; intro e; simp [e] at h0)]
  have h0' : 0 < b.length := by omega
  have i0 := idx_nat h0'
  have g0 := getD_get h0'
  have i0' : idx b 0 = some (b[0]) := i0
  rw [i0']
  simp only [bs, le247]
  by_cases h1 : b[0].toNat ≤ 247
  · rw [decide_eq_true h1, if_pos rfl, readN_some (readNum_small h0 (by rw [g0]; exact h1)), g0]
    congr 2
    apply UInt64.toNat_inj.1
    rw [UInt8.toNat_toUInt64]; simp
  rw [decide_eq_false h1, if_neg (by simp)]
  have hx := b[0].toNat_lt
  obtain ⟨k, hk⟩ : ∃ k : Nat, b[0].toNat - 247 = k := Exists.intro (b[0].toNat - 247) rfl
  have ek : w64 ((b[0].toNat : Int) - 247) = (k : Int) := by rw [w64_eq (by omega) (by omega)]; omega
  rw [ek]
  by_cases hbad : b.length ≤ k ∨ (b.getD 1 0).toNat = 0 ∨ (k = 1 ∧ (b.getD 1 0).toNat ≤ 247)
  · rw [readN_none (readNum_bad h0 (by rw [g0]; exact h1) (by rw [g0, hk]; exact hbad))]
    by_cases c1 : b.length ≤ k
    · rw [if_pos (by simp; omega)]; rfl
    · rw [if_neg (by simp; omega)]
      have l1 : 1 < b.length := by omega
      have i1 : idx b 1 = some (b[1]) := idx_nat l1
      have g1 := getD_get l1
      rw [g1] at hbad
      rw [i1]
      simp only [bs, u8z, le247]
      by_cases c2 : b[1].toNat = 0
      · rw [decide_eq_true c2]; rfl
      · have c3 : k = 1 ∧ b[1].toNat ≤ 247 := by omega
        rw [decide_eq_false c2, c3.1]
        simp only [Bool.false_eq_true, if_false]
        rw [if_pos (by decide), decide_eq_true c3.2]; rfl
  · rw [readN_some (readNum_good h0 (by rw [g0]; exact h1) (by rw [g0, hk]; exact hbad)), g0, hk]
    have l1 : 1 < b.length := by omega
    have i1 : idx b 1 = some (b[1]) := idx_nat l1
    have g1 := getD_get l1
    rw [g1] at hbad
    rw [if_neg (by simp; omega), i1]
    simp only [bs, u8z, le247]
    have c2 : ¬ b[1].toNat = 0 := by omega
    rw [decide_eq_false c2]
    simp only [Bool.false_eq_true, if_false]
    have hc : cut b 1 (w64 ((k : Int) + 1)) = some ((b.drop 1).take k) := by
      have e : w64 ((k : Int) + 1) = ((k + 1 : Nat) : Int) := w64_nat (by omega)
      rw [e]
      have := cut_eq (b := b) (i := 1) (j := k + 1) (by omega) (by omega)
      rw [show ((1 : Nat) : Int) = 1 from rfl] at this
      rw [this, Nat.add_sub_cancel]
    have he : w64 ((k : Int) + 1) = ((k + 1 : Nat) : Int) := w64_nat (by omega)
    have hin : (if ((k : Int) == 1) = true then (if decide (b[1].toNat ≤ 247) = true then some (.inl (0, 0, 12)) else some (.inr ())) else some (.inr ()) : Option (Sum (UInt64 × Int × Int) Unit)) = some (.inr ()) := by
      by_cases c3 : k = 1
      · have c4 : ¬ b[1].toNat ≤ 247 := by omega
        rw [decide_eq_false c4]; split <;> rfl
      · rw [if_neg (by simp; omega)]
    rw [hin, or_r, hc]
    simp only [bs]
    rw [rdn_L0 _ (by rw [List.length_take]; omega)]
    simp only [bs, he]; rfl
theorem rdPart_eq (b : List UInt8) (hb : b.length ≤ 9223372036854775807) (most : Int) (hm : most ≤ 9223372036854775807) (k : Nat) (hk : 0 < k) (hk2 : k ≤ 1000) : wire_part b most (k : Int) = some ((partL b most k).1, ((partL b most k).2.1 : Int), ((partL b most k).2.2 : Int)) := by
  unfold wire_part
  by_cases h1 : most < 0
  · rw [decide_eq_true h1, if_pos rfl, partL_arg h1]; rfl
  rw [decide_eq_false h1, if_neg (by simp), rdNum_eq b hb]
  simp only [bs]
  have hl := readN_lt b
  have hu := readN_used b
  have en : (UInt64.ofNat (readN b).1).toNat = (readN b).1 := by simp; omega
  have e1 : decide (UInt64.ofInt most < UInt64.ofNat (readN b).1) = decide (most < ((readN b).1 : Int)) := by
    rw [decide_eq_decide, UInt64.lt_iff_toNat_lt, ofInt_toNat, en]; omega
  obtain ⟨D, hD⟩ : ∃ D : Nat, (b.length - (readN b).2.1) / k = D := Exists.intro _ rfl
  have hd : D ≤ b.length := by rw [← hD]; exact Nat.le_trans (Nat.div_le_self _ _) (Nat.sub_le _ _)
  have e2 : w64 (Int.tdiv (w64 ((b.length : Int) - (readN b).2.1)) (k : Int)) = (D : Int) := by
    rw [w64_eq (x := (b.length : Int) - (readN b).2.1) (by omega) (by omega), show (b.length : Int) - ((readN b).2.1 : Int) = ((b.length - (readN b).2.1 : Nat) : Int) by omega, Int.tdiv_eq_ediv_of_nonneg (by omega), ← Int.natCast_ediv, hD, w64_eq (by omega) (by omega)]
  have e3 : decide (UInt64.ofInt (w64 (Int.tdiv (w64 ((b.length : Int) - (readN b).2.1)) (k : Int))) < UInt64.ofNat (readN b).1) = decide ((b.length - (readN b).2.1) / k < (readN b).1) := by
    rw [decide_eq_decide, UInt64.lt_iff_toNat_lt, e2, ofInt_toNat, en, hD]; omega
  rw [e1, e3]
  by_cases h2 : (readN b).2.2 ≠ 0 ∨ most < ((readN b).1 : Int) ∨ (b.length - (readN b).2.1) / k < (readN b).1
  · rw [partL_bad h1 h2]
    have hs : (if ((((readN b).2.2 : Nat) : Int) != 0) = true then some true else if decide (most < ((readN b).1 : Int)) = true then some true else chk ((k : Int) ≠ 0) >>= fun u7 => some (decide ((b.length - (readN b).2.1) / k < (readN b).1))) = some true := by
      by_cases c1 : (readN b).2.2 = 0
      · rw [if_neg (by simp [c1])]
        by_cases c2 : most < ((readN b).1 : Int)
        · rw [decide_eq_true c2, if_pos rfl]
        · rw [decide_eq_false c2, if_neg (by simp), chk_true (by omega), decide_eq_true (by omega)]; rfl
      · rw [if_pos (by simp; omega)]
    rw [hs]; rfl
  · rw [partL_good h1 h2]
    have hf := part_fits (b := b) (k := k) (by omega)
    have hs : (if ((((readN b).2.2 : Nat) : Int) != 0) = true then some true else if decide (most < ((readN b).1 : Int)) = true then some true else chk ((k : Int) ≠ 0) >>= fun u7 => some (decide ((b.length - (readN b).2.1) / k < (readN b).1))) = some false := by
      rw [if_neg (by simp; omega), decide_eq_false (by omega), if_neg (by simp), chk_true (by omega), decide_eq_false (by omega)]; rfl
    rw [hs]
    simp only [bs, Bool.false_eq_true, if_false, en]
    have hmul : (k : Int) * ((readN b).1 : Int) = ((k * (readN b).1 : Nat) : Int) := by rw [Int.natCast_mul]
    have h9 : (readN b).1 ≤ k * (readN b).1 := Nat.le_mul_of_pos_left _ hk
    have e5 : w64 (((readN b).2.1 : Int) + w64 ((k : Int) * w64 ((readN b).1 : Int))) = (((readN b).2.1 + k * (readN b).1 : Nat) : Int) := by
      rw [w64_eq (x := ((readN b).1 : Int)) (by omega) (by omega), hmul, w64_eq (x := ((k * (readN b).1 : Nat) : Int)) (by omega) (by omega), w64_eq (by omega) (by omega)]; omega
    rw [e5, cut_eq (by omega) (by omega)]
    simp only [bs, Nat.add_sub_cancel_left]; rfl
theorem rdBytes_eq (b : List UInt8) (hb : b.length ≤ 100000) (most : Int) (hm : most ≤ 9223372036854775807) : wire_ReadBytes b most = some ((partL b most 1).1, ((partL b most 1).2.1 : Int), ((partL b most 1).2.2 : Int)) := by
  unfold wire_ReadBytes bytes_Clone
  have := rdPart_eq b (by omega) most hm 1 (by decide) (by decide)
  rw [show ((1 : Nat) : Int) = 1 from rfl] at this
  rw [this]
  have hl := partL_len b most 1
  simp only [bs]
  rw [app_eq (by simp; omega)]; rfl
end Go.Proofs.Ytklfgpdfongaeaa
namespace Go.Proofs.Ytklfgpdfongaeaa
open Go
set_option linter.unusedSimpArgs false
set_option linter.unusedVariables false
def idAt (s : List UInt8) (o : Nat) : Vector UInt8 32 := Vector.ofFn fun j : Fin 32 => s.getD (o + j.val) 0
def idsOf (s : List UInt8) (n : Nat) : List (Vector UInt8 32) := (List.range n).map fun i => idAt s (32 * i)
theorem idsOf_len (s : List UInt8) (n : Nat) : (idsOf s n).length = n := by simp [idsOf]
theorem idsOf_succ (s : List UInt8) (n : Nat) : idsOf s (n + 1) = idsOf s n ++ [idAt s (32 * n)] := by simp [idsOf, List.range_succ]
theorem idAt_list (s : List UInt8) (o : Nat) (h : o + 32 ≤ s.length) : (idAt s o).toList = (s.drop o).take 32 := by
  apply List.ext_getElem
  · simp; omega
  · intro j h1 h2
    have hj : j < 32 := by simpa using h1
    simp only [idAt, Vector.getElem_toList, Vector.getElem_ofFn, List.getElem_take, List.getElem_drop]
    exact getD_get (by omega)
theorem idsL_of (s : List UInt8) : ∀ n : Nat, 32 * n ≤ s.length → idsL (idsOf s n) = s.take (32 * n)
  | 0, _ => by simp [idsOf, idsL]
  | n + 1, h => by
    rw [idsOf_succ]
    have ih := idsL_of s n (by omega)
    unfold idsL at ih ⊢
    rw [List.flatMap_append, ih, List.flatMap_cons, List.flatMap_nil, List.append_nil, idAt_list s (32 * n) (by omega), show 32 * (n + 1) = 32 * n + 32 by omega, List.take_add]
theorem vcopy_id (x : Vector UInt8 32) (s : List UInt8) (o : Nat) (h : o + 32 ≤ s.length) : vcopy x (s.drop o) = idAt s o := by
  apply Vector.toList_inj.1
  rw [vcopy_list, idAt_list s o h]
  have : (s.drop o).length = s.length - o := by simp
  rw [Nat.min_eq_right (by omega)]
  simp
def rdIDs (b : List UInt8) (most : Int) : List (Vector UInt8 32) × Nat × Nat :=
  if (partL b most 32).2.2 ≠ 0 then ([], 0, (partL b most 32).2.2)
  else if incr (idsOf (partL b most 32).1 ((partL b most 32).1.length / 32)) then (idsOf (partL b most 32).1 ((partL b most 32).1.length / 32), (partL b most 32).2.1, 0) else ([], 0, 12)
theorem part_len32 {b : List UInt8} {most : Int} (h : (partL b most 32).2.2 = 0) : (partL b most 32).1.length = 32 * (readN b).1 ∧ (partL b most 32).2.1 = (readN b).2.1 + 32 * (readN b).1 ∧ (readN b).2.2 = 0 ∧ (partL b most 32).1 = (b.drop (readN b).2.1).take (32 * (readN b).1) ∧ ((readN b).1 : Int) ≤ most ∧ (readN b).2.1 + 32 * (readN b).1 ≤ b.length := by
  have hu := readN_used b
  by_cases h1 : most < 0
  · rw [partL_arg h1] at h; cases h
  by_cases h2 : (readN b).2.2 ≠ 0 ∨ most < ((readN b).1 : Int) ∨ (b.length - (readN b).2.1) / 32 < (readN b).1
  · rw [partL_bad h1 h2] at h; cases h
  · have hf := part_fits (b := b) (k := 32) (by omega)
    rw [partL_good h1 h2]
    refine ⟨?_, rfl, by omega, rfl, by omega, by omega⟩
    simp only [List.length_take, List.length_drop]; omega
theorem rdi_L0 (s : List UInt8) (n : Nat) (hs : s.length = 32 * n) (hn : n ≤ 1000) : iter (wire_ReadIDs_L0 (List.replicate n (Vector.replicate 32 0))) (s, List.replicate n (Vector.replicate 32 0), 0) = some (idsOf s n) := by
  have h := iter_run (F := wire_ReadIDs_L0 (List.replicate n (Vector.replicate 32 0))) (b := idsOf s n) n (fun i => (s.drop (32 * i), idsOf s i ++ List.replicate (n - i) (Vector.replicate 32 0), (i : Int)))
    (fun i hi => by
      unfold wire_ReadIDs_L0
      rw [if_pos (by simp; omega)]
      have hl : (idsOf s i ++ List.replicate (n - i) (Vector.replicate 32 (0 : UInt8))).length = n := by simp [idsOf_len]; omega
      have hidx : idx (idsOf s i ++ List.replicate (n - i) (Vector.replicate 32 (0 : UInt8))) (i : Int) = some (Vector.replicate 32 0) := by
        rw [idx_nat (by omega)]
        rw [List.getElem_append_right (by rw [idsOf_len]; omega)]
        simp
      have hd : (s.drop (32 * i)).length = 32 * (n - i) := by rw [List.length_drop, hs]; omega
      have hmin : min (s.drop (32 * i)).length 32 = 32 := by rw [hd]; omega
      have hcut : cut (s.drop (32 * i)) ((32 : Nat) : Int) ((s.drop (32 * i)).length : Int) = some (s.drop (32 * (i + 1))) := by
        rw [cut_eq (by omega) (Nat.le_refl _), List.drop_drop, List.take_of_length_le (by simp; omega)]
        congr 2
      simp only [hidx, bs, hmin, hcut]
      rw [vcopy_id _ s (32 * i) (by omega), w64_nat (by omega)]
      congr 3
      have e : n - i = (n - (i + 1)) + 1 := by omega
      rw [Int.toNat_natCast, List.set_append_right _ _ (by rw [idsOf_len]; exact Nat.le_refl _), idsOf_len, Nat.sub_self, e, List.replicate_succ, List.set_cons_zero, idsOf_succ, List.append_assoc]
      rfl)
    (by
      unfold wire_ReadIDs_L0
      rw [if_neg (by simp)]
      simp)
  simpa [idsOf] using h
theorem rdIDs_eq (b : List UInt8) (hb : b.length ≤ 20000) (most : Int) (hm : most ≤ 1000) : wire_ReadIDs b most = some ((rdIDs b most).1, ((rdIDs b most).2.1 : Int), ((rdIDs b most).2.2 : Int)) := by
  unfold wire_ReadIDs rdIDs
  have hp := rdPart_eq b (by omega) most (by omega) 32 (by omega) (by omega)
  rw [show ((32 : Nat) : Int) = 32 from rfl] at hp
  rw [hp]
  simp only [bs]
  by_cases h : (partL b most 32).2.2 = 0
  · obtain ⟨l1, l2, l3, l4, l5, l6⟩ := part_len32 h
    have hn : (partL b most 32).1.length / 32 = (readN b).1 := by omega
    rw [if_neg (by simp [h]), if_neg (by simp [h]), hn]
    have e : w64 (Int.tdiv ((partL b most 32).1.length : Int) 32) = ((readN b).1 : Int) := by
      rw [l1, Int.tdiv_eq_ediv_of_nonneg (by omega), w64_eq (by omega) (by omega)]; omega
    rw [e, mkn_eq (by omega) (by omega)]
    simp only [bs]
    rw [rdi_L0 _ _ l1 (by omega)]
    simp only [bs]
    rw [wrising_eq _ (by rw [idsOf_len]; omega)]
    simp only [bs]
    cases incr (idsOf (partL b most 32).1 (readN b).1) <;> rfl
  · rw [if_pos (by simp; omega), if_pos h]; rfl
end Go.Proofs.Ytklfgpdfongaeaa
namespace Go.Proofs.Ytklfgpdfongaeaa
open Go
set_option linter.unusedSimpArgs false
set_option linter.unusedVariables false
theorem sids_from (a b : List (Vector UInt8 32)) (hl : a.length = b.length) (hb : a.length ≤ 9223372036854775807) : ∀ (n i : Nat), a.length - i = n → i ≤ a.length → a.take i = b.take i →
    iter (braidref04_SameIDs_L0 a b) (i : Int) = some (if a = b then .inr () else .inl false) := by
  intro n
  induction n with
  | zero =>
    intro i hn hi he
    have : i = a.length := by omega
    subst this
    refine iter_l ?_
    unfold braidref04_SameIDs_L0
    have e : a = b := by rw [List.take_length, hl, List.take_length] at he; exact he
    rw [if_neg (by simp), if_pos e]
  | succ n ih =>
    intro i hn hi he
    have h1 : i < a.length := by omega
    have h2 : i < b.length := by omega
    have hF : braidref04_SameIDs_L0 a b (i : Int) = if a[i] = b[i] then some (.inr ((i + 1 : Nat) : Int)) else some (.inl (.inl false)) := by
      unfold braidref04_SameIDs_L0
      rw [if_pos (by simp <;> omega)]
      simp only [idx_nat h1, idx_nat h2, bs, w64_nat (show i < 9223372036854775807 by omega)]
      by_cases h : a[i] = b[i] <;> simp [h]
    by_cases h : a[i] = b[i]
    · rw [if_pos h] at hF
      rw [iter_r hF]
      exact ih (i + 1) (by omega) (by omega) (by rw [List.take_succ_eq_append_getElem h1, List.take_succ_eq_append_getElem h2, he, h])
    · rw [if_neg h] at hF
      rw [iter_l hF, if_neg (fun e => h (by subst e; rfl))]
theorem sameIDs_eq (a b : List (Vector UInt8 32)) (hb : a.length ≤ 9223372036854775807) : braidref04_SameIDs a b = some (decide (a = b)) := by
  unfold braidref04_SameIDs
  by_cases hl : a.length = b.length
  · rw [if_neg (by simp [hl])]
    have := sids_from a b hl hb _ 0 rfl (by omega) (by simp)
    rw [show (0 : Int) = ((0 : Nat) : Int) from rfl, this]
    by_cases h : a = b
    · rw [if_pos h, decide_eq_true h]; rfl
    · rw [if_neg h, decide_eq_false h]; rfl
  · rw [if_pos (by simp; omega), decide_eq_false (fun e => hl (by rw [e]))]
theorem sops_from (f g : api_Frame) (hl : f.Ops.length = g.Ops.length) (hb : f.Ops.length ≤ 9223372036854775807) (hs : ∀ x ∈ f.Ops, x.length ≤ 9223372036854775807) : ∀ (n i : Nat), f.Ops.length - i = n → i ≤ f.Ops.length → f.Ops.take i = g.Ops.take i →
    iter (braidref07_Same_L0 f g) (i : Int) = some (if f.Ops = g.Ops then .inr () else .inl false) := by
  intro n
  induction n with
  | zero =>
    intro i hn hi he
    have : i = f.Ops.length := by omega
    subst this
    refine iter_l ?_
    unfold braidref07_Same_L0
    have e : f.Ops = g.Ops := by rw [List.take_length, hl, List.take_length] at he; exact he
    rw [if_neg (by simp), if_pos e]
  | succ n ih =>
    intro i hn hi he
    have h1 : i < f.Ops.length := by omega
    have h2 : i < g.Ops.length := by omega
    have hF : braidref07_Same_L0 f g (i : Int) = if f.Ops[i] = g.Ops[i] then some (.inr ((i + 1 : Nat) : Int)) else some (.inl (.inl false)) := by
      unfold braidref07_Same_L0
      rw [if_pos (by simp <;> omega)]
      simp only [idx_nat h1, idx_nat h2, bs, w64_nat (show i < 9223372036854775807 by omega)]
      rw [sameB_eq _ _ (hs _ (List.getElem_mem h1))]
      by_cases h : f.Ops[i] = g.Ops[i] <;> simp [h, bs]
    by_cases h : f.Ops[i] = g.Ops[i]
    · rw [if_pos h] at hF
      rw [iter_r hF]
      exact ih (i + 1) (by omega) (by omega) (by rw [List.take_succ_eq_append_getElem h1, List.take_succ_eq_append_getElem h2, he, h])
    · rw [if_neg h] at hF
      rw [iter_l hF, if_neg (fun e => h (by simp only [e]))]
theorem frame_ext {f g : api_Frame} (h1 : f.Kind = g.Kind) (h2 : f.N = g.N) (h3 : f.IDs = g.IDs) (h4 : f.Ops = g.Ops) : f = g := by
  cases f; cases g; simp only at h1 h2 h3 h4; subst h1 h2 h3 h4; rfl
theorem same7_eq (f g : api_Frame) (h1 : f.IDs.length ≤ 9223372036854775807) (h2 : f.Ops.length ≤ 9223372036854775807) (h3 : ∀ x ∈ f.Ops, x.length ≤ 9223372036854775807) : braidref07_Same f g = some (decide (f = g)) := by
  unfold braidref07_Same
  rw [sameIDs_eq _ _ h1]
  by_cases c1 : f.Kind = g.Kind
  · by_cases c2 : f.N = g.N
    · by_cases c3 : f.IDs = g.IDs
      · rw [if_neg (by simp [c1]), if_neg (by simp [c2]), decide_eq_true c3]
        simp only [bs, Bool.not_true, Bool.false_eq_true, if_false]
        by_cases hl : f.Ops.length = g.Ops.length
        · rw [if_neg (by simp [hl])]
          have := sops_from f g hl h2 h3 _ 0 rfl (by omega) (by simp)
          rw [show (0 : Int) = ((0 : Nat) : Int) from rfl, this]
          by_cases h : f.Ops = g.Ops
          · rw [if_pos h, decide_eq_true (frame_ext c1 c2 c3 h)]; rfl
          · rw [if_neg h, decide_eq_false (fun e => h (by rw [e]))]; rfl
        · rw [if_pos (by simp; omega), decide_eq_false (fun e => hl (by rw [e]))]
      · rw [if_neg (by simp [c1]), if_neg (by simp [c2]), decide_eq_false c3, decide_eq_false (fun e => c3 (by rw [e]))]; rfl
    · rw [if_neg (by simp [c1]), if_pos (by simp [c2]), decide_eq_false (fun e => c2 (by rw [e]))]; rfl
  · rw [if_pos (by simp [c1]), decide_eq_false (fun e => c1 (by rw [e]))]; rfl
end Go.Proofs.Ytklfgpdfongaeaa
namespace Go.Proofs.Ytklfgpdfongaeaa
open Go
set_option linter.unusedSimpArgs false
set_option linter.unusedVariables false
theorem encF_short {f : api_Frame} (h : goodF f = true) : (encF f).length ≤ 2000 := by
  rcases kinds f.Kind with k | k | k | k
  · rw [goodF_l k] at h
    simp only [Bool.and_eq_true, decide_eq_true_eq] at h
    obtain ⟨⟨⟨g1, g2⟩, g3⟩, g4⟩ := h
    have hn := numBytes_len f.IDs.length (by omega)
    have hd := idsL_len f.IDs
    rw [encF_l k]; simp; omega
  · rw [goodF_5 k] at h
    simp only [Bool.and_eq_true, decide_eq_true_eq] at h
    rw [encF_5 k]; simp; omega
  · have hn := numBytes_len f.N.toNat (UInt64.toNat_lt _)
    rw [encF_n k]; simp; omega
  · obtain ⟨h1, h2, h3⟩ := k
    unfold goodF at h; rw [if_neg h1, if_neg h2, if_neg h3] at h; cases h
end Go.Proofs.Ytklfgpdfongaeaa
namespace Go.Proofs.Ytklfgpdfongaeaa
open Go
set_option linter.unusedSimpArgs false
set_option linter.unusedVariables false
def rdOps : Nat → List UInt8 → Option (List (List UInt8) × List UInt8)
  | 0, b => some ([], b)
  | n + 1, b => if (partL b 400 1).2.2 ≠ 0 then none else (rdOps n (b.drop (partL b 400 1).2.1)).map fun p => ((partL b 400 1).1 :: p.1, p.2)
theorem part_split {b : List UInt8} {most : Int} (h : (partL b most 1).2.2 = 0) : b = (numBytes (partL b most 1).1.length ++ (partL b most 1).1) ++ b.drop (partL b most 1).2.1 ∧ ((partL b most 1).1.length : Int) ≤ most ∧ (partL b most 1).2.1 ≤ b.length := by
  have hu := readN_used b
  by_cases h1 : most < 0
  · rw [partL_arg h1] at h; cases h
  by_cases h2 : (readN b).2.2 ≠ 0 ∨ most < ((readN b).1 : Int) ∨ (b.length - (readN b).2.1) / 1 < (readN b).1
  · rw [partL_bad h1 h2] at h; cases h
  · have hf := part_fits (b := b) (k := 1) (by omega)
    rw [partL_good h1 h2]
    have e0 : (readN b).2.2 = 0 := by omega
    rcases readN_cases b with ⟨h3, h4⟩ | ⟨n, u, h3, h4⟩
    · rw [h4] at e0; cases e0
    · obtain ⟨a1, a2, a3⟩ := (readNum_some_iff b n u).1 h3
      rw [h4] at hf h2 ⊢
      simp only [Nat.one_mul] at hf ⊢
      have hl : ((b.drop u).take n).length = n := by rw [List.length_take, List.length_drop]; omega
      simp only at h2
      refine ⟨?_, by rw [hl]; omega, by have := readNum_lt h3; omega⟩
      rw [hl, ← a3, ← List.take_add, List.take_append_drop]
theorem rdOps_ok : ∀ (n : Nat) (b : List UInt8) (ops : List (List UInt8)) (rest : List UInt8), rdOps n b = some (ops, rest) → ops.length = n ∧ b = opsL ops ++ rest ∧ ∀ x ∈ ops, x.length ≤ 400
  | 0, b, ops, rest, h => by
    simp only [rdOps, Option.some.injEq, Prod.mk.injEq] at h
    obtain ⟨rfl, rfl⟩ := h
    exact ⟨rfl, rfl, by simp⟩
  | n + 1, b, ops, rest, h => by
    unfold rdOps at h
    by_cases he : (partL b 400 1).2.2 ≠ 0
    · rw [if_pos he] at h; cases h
    · rw [if_neg he] at h
      cases hr : rdOps n (b.drop (partL b 400 1).2.1) with
      | none => rw [hr] at h; cases h
      | some p =>
        rw [hr] at h
        simp only [Option.map_some, Option.some.injEq, Prod.mk.injEq] at h
        obtain ⟨rfl, rfl⟩ := h
        obtain ⟨i1, i2, i3⟩ := rdOps_ok n _ p.1 p.2 hr
        obtain ⟨s1, s2, s3⟩ := part_split (b := b) (most := 400) (by omega)
        refine ⟨by simp [i1], ?_, ?_⟩
        · rw [opsL_cons, List.append_assoc, ← i2]; exact s1
        · intro x hx
          rcases List.mem_cons.1 hx with e | e
          · rw [e]; omega
          · exact i3 x e
theorem fread_L1 (k : UInt8) : ∀ (n : Nat) (b : List UInt8) (acc : List (List UInt8)) (u : UInt64), u.toNat = n → n + acc.length ≤ 100 → b.length ≤ 3000 →
    match rdOps n b with
    | some (ops, _) => iter (frame_read_L1 k) (b, acc, u) = some (.inr (0, [], acc ++ ops, 0))
    | none => ∃ f, iter (frame_read_L1 k) (b, acc, u) = some (.inl (f, 12))
  | 0, b, acc, u, hu, ha, hb => by
    simp only [rdOps]
    refine iter_l ?_
    unfold frame_read_L1
    have e : decide (0 < u) = false := by rw [decide_eq_false_iff_not, UInt64.lt_iff_toNat_lt, hu]; exact Nat.lt_irrefl _
    rw [e, if_neg (by simp)]; simp
  | n + 1, b, acc, u, hu, ha, hb => by
    have e : decide (0 < u) = true := by rw [decide_eq_true_eq, UInt64.lt_iff_toNat_lt, hu]; show 0 < n + 1; omega
    have hp := rdBytes_eq b (by omega) 400 (by decide)
    unfold rdOps
    by_cases he : (partL b 400 1).2.2 ≠ 0
    · rw [if_pos he]
      have h12 : (partL b 400 1).2.2 = 12 := by
        unfold partL at he ⊢
        split
        · rename_i h; exact absurd h (by decide)
        · split
          · rfl
          · rename_i h1 h2; rw [if_neg h1, if_neg h2] at he; exact absurd rfl he
      refine ⟨(⟨k, 0, [], acc⟩ : api_Frame), iter_l ?_⟩
      unfold frame_read_L1
      rw [e, if_pos rfl, hp]
      simp only [bs, h12]
      rfl
    · rw [if_neg he]
      obtain ⟨s1, s2, s3⟩ := part_split (b := b) (most := 400) (by omega)
      have hF : frame_read_L1 k (b, acc, u) = some (.inr (b.drop (partL b 400 1).2.1, acc ++ [(partL b 400 1).1], u - 1)) := by
        unfold frame_read_L1
        rw [e, if_pos rfl, hp]
        simp only [bs]
        rw [if_neg (by simp; omega), cut_eq s3 (Nat.le_refl _)]
        simp only [bs]
        rw [app_eq (by simp; omega)]
        simp only [bs]
        rw [List.take_of_length_le (by simp)]
      have hu2 : (u - 1).toNat = n := by rw [UInt64.toNat_sub_of_le _ _ (by rw [UInt64.le_iff_toNat_le, hu]; show 1 ≤ n + 1; omega), hu]; rfl
      have ih := fread_L1 k n (b.drop (partL b 400 1).2.1) (acc ++ [(partL b 400 1).1]) (u - 1) hu2 (by simp; omega) (by simp; omega)
      cases hr : rdOps n (b.drop (partL b 400 1).2.1) with
      | none =>
        rw [hr] at ih
        obtain ⟨f, ih⟩ := ih
        exact ⟨f, by rw [iter_r hF]; exact ih⟩
      | some p =>
        rw [hr] at ih
        simp only [Option.map_some]
        rw [iter_r hF]
        simp only at ih
        rw [ih]; simp
def rawF (k : UInt8) (r : List UInt8) : Option api_Frame :=
  if k = 2 ∨ k = 3 ∨ k = 4 then (if (rdIDs r 40).2.2 = 0 then some ⟨k, 0, (rdIDs r 40).1, []⟩ else none)
  else if k = 5 then (if (readN r).2.2 ≠ 0 ∨ 8 < (readN r).1 then none else (rdOps (readN r).1 (r.drop (readN r).2.1)).map fun p => ⟨k, 0, [], p.1⟩)
  else if (readN r).2.2 = 0 then some ⟨k, UInt64.ofNat (readN r).1, [], []⟩ else none
theorem rdIDs_small (r : List UInt8) (hr : r.length ≤ 3000) : (rdIDs r 40).1.length ≤ 40 := by
  unfold rdIDs
  by_cases h : (partL r 40 32).2.2 ≠ 0
  · rw [if_pos h]; simp
  · rw [if_neg h]
    obtain ⟨l1, l2, l3, l4, l5, l6⟩ := part_len32 (b := r) (most := 40) (by omega)
    split
    · simp only [idsOf_len]; omega
    · simp
theorem raw_ok {k : UInt8} {r : List UInt8} {f : api_Frame} (hr : r.length ≤ 3000) (h : rawF k r = some f) : okF f ∧ f.Kind = k := by
  unfold rawF at h
  by_cases k1 : k = 2 ∨ k = 3 ∨ k = 4
  · rw [if_pos k1] at h
    split at h
    · simp only [Option.some.injEq] at h; subst h
      have := rdIDs_small r hr
      exact ⟨⟨by show (rdIDs r 40).1.length ≤ 100; omega, by simp, by simp⟩, rfl⟩
    · cases h
  rw [if_neg k1] at h
  by_cases k2 : k = 5
  · rw [if_pos k2] at h
    split at h
    · cases h
    · rename_i h2
      cases hx : rdOps (readN r).1 (r.drop (readN r).2.1) with
      | none => rw [hx] at h; cases h
      | some p =>
        rw [hx] at h
        simp only [Option.map_some, Option.some.injEq] at h; subst h
        obtain ⟨i1, i2, i3⟩ := rdOps_ok _ _ p.1 p.2 hx
        exact ⟨⟨by simp, by show p.1.length ≤ 20; omega, fun x hx => by have := i3 x hx; omega⟩, rfl⟩
  · rw [if_neg k2] at h
    split at h
    · simp only [Option.some.injEq] at h; subst h
      exact ⟨⟨by simp, by simp, by simp⟩, rfl⟩
    · cases h
def parseF (b : List UInt8) : Option api_Frame :=
  match b with
  | [] => none
  | k :: r => match rawF k r with
    | none => none
    | some f => if goodF f = true ∧ encF f = k :: r then some f else none
def outF (o : Option api_Frame) : api_Frame × Int := match o with
  | some f => (f, 0)
  | none => (⟨0, 0, [], []⟩, 12)
theorem u64gt8 (n : Nat) (h : n < 18446744073709551616) : decide (8 < UInt64.ofNat n) = decide (8 < n) := by
  rw [decide_eq_decide, UInt64.lt_iff_toNat_lt]
  have : (UInt64.ofNat n).toNat = n := by simp; omega
  rw [this]; rfl
theorem read_eq (k : UInt8) (r : List UInt8) (hr : r.length ≤ 3000) : ∃ f e, frame_read k r = some (f, e) ∧ (e = 0 → rawF k r = some f) ∧ (e ≠ 0 → rawF k r = none) := by
  have hl := readN_lt r
  have hu := readN_used r
  unfold frame_read rawF
  rw [listed_eq, Listed_eq]
  simp only [bs]
  by_cases k1 : k = 2 ∨ k = 3 ∨ k = 4
  · rw [decide_eq_true k1, if_pos rfl, rdIDs_eq r (by omega) 40 (by decide)]
    simp only [bs, or_r, if_pos k1]
    refine ⟨_, _, rfl, fun h => ?_, fun h => ?_⟩
    · rw [if_pos (by omega)]
    · rw [if_neg (by omega)]
  rw [decide_eq_false k1]
  simp only [Bool.false_eq_true, if_false, if_neg k1]
  by_cases k2 : k = 5
  · rw [if_pos (by simp [k2]), rdNum_eq r (by omega), if_pos k2]
    simp only [bs]
    rw [u64gt8 _ hl.1]
    by_cases hb : (readN r).2.2 ≠ 0 ∨ 8 < (readN r).1
    · have hs : (if ((((readN r).2.2 : Nat) : Int) != 0) = true then some true else some (decide (8 < (readN r).1))) = some true := by
        by_cases c : (readN r).2.2 = 0
        · rw [if_neg (by simp [c]), decide_eq_true (by omega)]
        · rw [if_pos (by simp; omega)]
      rw [hs, if_pos hb]
      exact ⟨_, _, rfl, fun h => (by cases h), fun _ => rfl⟩
    · have hs : (if ((((readN r).2.2 : Nat) : Int) != 0) = true then some true else some (decide (8 < (readN r).1))) = some false := by
        rw [if_neg (by simp; omega), decide_eq_false (by omega)]
      rw [hs, if_neg hb]
      simp only [bs, Bool.false_eq_true, if_false]
      rw [cut_eq hu (Nat.le_refl _)]
      simp only [bs]
      rw [List.take_of_length_le (by simp)]
      have hloop := fread_L1 k (readN r).1 (r.drop (readN r).2.1) [] (UInt64.ofNat (readN r).1) (by simp; omega) (by simp; omega) (by simp; omega)
      cases hx : rdOps (readN r).1 (r.drop (readN r).2.1) with
      | none =>
        rw [hx] at hloop
        obtain ⟨f, hloop⟩ := hloop
        rw [hloop]
        exact ⟨_, _, rfl, fun h => (by cases h), fun _ => rfl⟩
      | some p =>
        rw [hx] at hloop
        simp only at hloop
        rw [hloop]
        exact ⟨_, _, rfl, fun _ => rfl, fun h => absurd rfl h⟩
  · rw [if_neg (by simpa using k2), rdNum_eq r (by omega), if_neg k2]
    simp only [bs, or_r]
    refine ⟨_, _, rfl, fun h => ?_, fun h => ?_⟩
    · rw [if_pos (by omega)]
    · rw [if_neg (by omega)]
theorem parse_eq (b : List UInt8) (hb : b.length ≤ 2600) : frame_Parse b = some (outF (parseF b)) := by
  unfold frame_Parse
  match b, hb with
  | [], _ => rfl
  | k :: r, hb =>
    simp only [List.length_cons] at hb
    have hlen : (((k :: r).length : Int) == 0) = false := by simp; omega
    rw [hlen]
    simp only [Bool.false_eq_true, if_false, bs]
    by_cases hbig : 2000 < (k :: r).length
    · rw [decide_eq_true (by omega)]
      have : parseF (k :: r) = none := by
        unfold parseF
        simp only
        cases hx : rawF k r with
        | none => rfl
        | some f =>
          simp only
          rw [if_neg]
          intro h
          have := encF_short h.1
          rw [h.2] at this; omega
      rw [this]; rfl
    · rw [decide_eq_false (by omega)]
      simp only [Bool.false_eq_true, if_false]
      have i0 : idx (k :: r) 0 = some k := idx_nat (l := k :: r) (i := 0) (by simp)
      have hc : cut (k :: r) 1 ((k :: r).length : Int) = some r := by
        have := cut_eq (b := k :: r) (i := 1) (j := (k :: r).length) (by simp) (by simp)
        rw [show ((1 : Nat) : Int) = 1 from rfl] at this
        rw [this]; simp
      rw [i0]
      simp only [bs]
      rw [hc]
      simp only [bs]
      obtain ⟨f, e, h1, h2, h3⟩ := read_eq k r (by omega)
      rw [h1]
      simp only [bs]
      unfold parseF
      dsimp only
      by_cases he : e = 0
      · rw [if_neg (by simp [he]), h2 he]
        obtain ⟨hok, hk⟩ := raw_ok (by omega) (h2 he)
        obtain ⟨o, w1, w2⟩ := fwrite f hok
        rw [w1]
        simp only [bs]
        cases hg : goodF f
        · have hn : ¬ (false = true ∧ encF f = k :: r) := by simp
          rw [if_neg hn]; rfl
        · rw [w2 hg]
          simp only [Bool.not_true, Bool.false_eq_true, if_false, bytes_Equal, bs]
          by_cases heq : encF f = k :: r
          · rw [if_pos (⟨trivial, heq⟩ : True ∧ encF f = k :: r), heq]
            simp [outF]
          · have hn : ¬ (True ∧ encF f = k :: r) := fun h => heq h.2
            rw [if_neg hn]
            have : (encF f == k :: r) = false := by simpa using heq
            rw [this]; rfl
      · rw [if_pos (by simpa using he), h3 he]; rfl
theorem parse_ok {b : List UInt8} {f : api_Frame} (hb : b.length ≤ 2600) (h : parseF b = some f) : okF f ∧ goodF f = true ∧ encF f = b := by
  match b, hb, h with
  | k :: r, hb, h =>
    simp only [List.length_cons] at hb
    unfold parseF at h
    simp only at h
    cases hx : rawF k r with
    | none => rw [hx] at h; cases h
    | some g =>
      rw [hx] at h
      simp only at h
      split at h
      · rename_i hc
        cases h
        exact ⟨(raw_ok (by omega) hx).1, hc.1, hc.2⟩
      · cases h
end Go.Proofs.Ytklfgpdfongaeaa
