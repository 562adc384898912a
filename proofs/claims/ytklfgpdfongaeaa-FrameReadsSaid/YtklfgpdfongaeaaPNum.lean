/- Numbers: what both encoders write. Plain. -/
import Derived.Test.YtklfgpdfongaeaaPure
import Derived.Test.YtklfgpdfongaeaaWireSpec
import Derived.Test.YtklfgpdfongaeaaE6
namespace Go.Proofs.Ytklfgpdfongaeaa
open Go
set_option linter.unusedSimpArgs false
set_option linter.unusedVariables false
theorem refNum_L0 : ∀ (n : Nat) (a : UInt64) (ds : List UInt8) (N : Nat), a.toNat = n → digits N = ds ++ digits n → (digits N).length ≤ 8 → iter braidref04_Number_L0 (a, ds) = some (digits N) := by
  intro n
  induction n using Nat.strongRecOn with
  | _ n ih =>
    intro a ds N ha hd hl
    by_cases h0 : n = 0
    · subst h0
      refine iter_l ?_
      unfold braidref04_Number_L0
      rw [if_neg (by simp [UInt64.lt_iff_toNat_lt, ha])]
      rw [digits_zero, List.append_nil] at hd
      rw [hd]
    · have hF : braidref04_Number_L0 (a, ds) = some (.inr (a / 256, ds ++ [(a % 256).toUInt8])) := by
        unfold braidref04_Number_L0
        rw [if_pos (by simp [UInt64.lt_iff_toNat_lt, ha]; omega)]
        have : ds.length ≤ 8 := Nat.le_trans (append_left_le hd) hl
        simp only [app_eq (show (ds.length + [(a % 256).toUInt8].length) * 1 ≤ 140737488355328 by simp; omega), bs]
      rw [iter_r hF]
      have hd2 := digits_split N n ds h0 hd
      refine ih (n / 256) (Nat.div_lt_self (by omega) (by omega)) _ _ N ?_ ?_ hl
      · simp [ha]
      · rw [hd2]
        congr 2
        congr 1
        apply UInt8.toNat_inj.1
        simp [ha]
theorem refNum_L2 (s : List UInt8) (hl : s.length ≤ 8) : ∀ (i : Nat) (acc : List UInt8), i ≤ s.length → acc.length + i ≤ 100 → iter (braidref04_Number_L2 s) (acc, (i : Int) - 1) = some (acc ++ (s.take i).reverse)
  | 0, acc, _, _ => by
    refine iter_l ?_
    unfold braidref04_Number_L2
    rw [if_neg (by simp)]; simp
  | i + 1, acc, hi, ha => by
    have hlt : i < s.length := by omega
    have e : ((i + 1 : Nat) : Int) - 1 = (i : Int) := by omega
    have hF : braidref04_Number_L2 s (acc, ((i + 1 : Nat) : Int) - 1) = some (.inr (acc ++ [s[i]], (i : Int) - 1)) := by
      unfold braidref04_Number_L2
      rw [e, if_pos (by simp)]
      simp only [idx_nat hlt, bs]
      rw [app_eq (by simp; omega)]
      simp only [bs, w64_eq (show -9223372036854775808 ≤ (i : Int) - 1 by omega) (by omega)]
    rw [iter_r hF, refNum_L2 s hl i _ (by omega) (by simp; omega)]
    have : List.take (i + 1) s = List.take i s ++ [s[i]] := by rw [List.take_add_one, List.getElem?_eq_getElem hlt]; rfl
    rw [this]; simp only [List.reverse_append, List.reverse_cons, List.reverse_nil, List.nil_append, List.append_assoc]
theorem refNumber_eq (a : UInt64) : braidref04_Number a = some (numBytes a.toNat) := by
  unfold braidref04_Number numBytes
  have h0 := UInt64.toNat_lt a
  by_cases h : a.toNat ≤ 247
  · have h' : decide (a ≤ 247) = true := by simpa [UInt64.le_iff_toNat_le] using h
    rw [if_pos h', if_pos h]
    congr 2
  · have h' : ¬ decide (a ≤ 247) = true := by simpa [UInt64.le_iff_toNat_le] using h
    rw [if_neg h', if_neg h]
    have hd := digits_le a.toNat h0
    rw [refNum_L0 a.toNat a [] a.toNat rfl rfl hd]
    simp only [bs]
    rw [w64_eq (show -9223372036854775808 ≤ ((digits a.toNat).length : Int) - 1 by omega) (by omega), w64_eq (show -9223372036854775808 ≤ 247 + ((digits a.toNat).length : Int) by omega) (by omega)]
    rw [refNum_L2 _ hd _ _ (Nat.le_refl _) (by simp; omega)]
    simp only [bs, List.take_length]
    rw [show (247 + ((digits a.toNat).length : Int)) = ((247 + (digits a.toNat).length : Nat) : Int) by omega]
    congr 1
    show _ :: _ = _
    congr 1
    apply UInt8.toNat_inj.1
    simp [UInt8.ofInt]
    omega
theorem wireNum_L0 (a : UInt64) (k : Nat) (hk : k = (digits a.toNat).length) (hk8 : k ≤ 8) : iter (wire_Number_L0 a (k : Int)) (fillNum a.toNat 0, 0) = some (fillNum a.toNat k) := by
  refine iter_run k (fun i => (fillNum a.toNat i, (i : Int))) (fun i hi => ?_) ?_
  · have hf := fillNum_len a.toNat i (by omega)
    unfold wire_Number_L0
    rw [if_pos (by simp; omega)]
    simp only [w64_eq (show -9223372036854775808 ≤ 8 * (i : Int) by omega) (by omega), chk_true (show (0 : Int) ≤ 8 * (i : Int) by omega), bs, w64_eq (show -9223372036854775808 ≤ (k : Int) - (i : Int) by omega) (by omega), w64_nat (show i < 9223372036854775807 by omega)]
    rw [idx_int (by omega) (by omega)]
    simp only [bs]
    have := fillNum_step a.toNat i (by omega)
    rw [← this]
    have e1 : ((k : Int) - (i : Int)).toNat = (digits a.toNat).length - i := by omega
    have e2 : (shr64 a (8 * (i : Int)).toNat).toUInt8 = UInt8.ofNat (a.toNat / 2 ^ (8 * i)) := by
      apply UInt8.toNat_inj.1
      have e3 : (8 * (i : Int)).toNat = 8 * i := by omega
      rw [e3]
      simp only [UInt64.toNat_toUInt8, shr64_toNat, Nat.min_eq_left (show 8 * i ≤ 64 by omega)]
      simp
    rw [e1, e2]
  · unfold wire_Number_L0
    rw [if_neg (by simp)]
theorem shr_step (a : UInt64) (k : Nat) (hk : k < 64) : (shr64 a k).toNat = a.toNat / 2 ^ k := by rw [shr64_toNat, Nat.min_eq_left (by omega)]
set_option maxRecDepth 100000 in
theorem len64_eq (a : UInt64) : math_bits_Len64 a = some (bitLen a.toNat : Int) := by
  unfold math_bits_Len64
  have h0 := UInt64.toNat_lt a
  have s1 : ∃ (y : UInt64) (n : Nat), (if decide (4294967296 ≤ a) then some (shr64 a 32, (32 : Int)) else some (a, 0)) = some (y, (n : Int)) ∧ y.toNat < 2 ^ 32 ∧ n ≤ 32 ∧ bitLen a.toNat = n + bitLen y.toNat := by
    by_cases h : 4294967296 ≤ a.toNat
    · refine ⟨shr64 a 32, 32, by rw [if_pos (by simpa [UInt64.le_iff_toNat_le] using h)]; rfl, ?_, by omega, ?_⟩
      · rw [shr_step a 32 (by omega)]; omega
      · rw [shr_step a 32 (by omega)]; exact bitLen_shift _ 32 (by omega)
    · exact ⟨a, 0, by rw [if_neg (by simpa [UInt64.le_iff_toNat_le] using h)]; rfl, by omega, by omega, by omega⟩
  obtain ⟨y, n, e1, hy, hn, hb⟩ := s1
  rw [e1]; simp only [bs]
  have s2 : ∃ (z : UInt64) (k : Nat), (if decide (65536 ≤ y) then some (shr64 y 16) >>= fun y5 => some (w64 ((n : Int) + 16)) >>= fun y6 => some (y5, y6) else some (y, (n : Int))) = some (z, (k : Int)) ∧ z.toNat < 2 ^ 16 ∧ k ≤ 48 ∧ bitLen a.toNat = k + bitLen z.toNat := by
    by_cases h : 65536 ≤ y.toNat
    · refine ⟨shr64 y 16, n + 16, by rw [if_pos (by simpa [UInt64.le_iff_toNat_le] using h)]; simp only [bs, w64_eq (show -9223372036854775808 ≤ (n : Int) + 16 by omega) (by omega)]; rfl, ?_, by omega, ?_⟩
      · rw [shr_step y 16 (by omega)]; omega
      · rw [shr_step y 16 (by omega), hb, bitLen_shift y.toNat 16 (by omega)]; omega
    · exact ⟨y, n, by rw [if_neg (by simpa [UInt64.le_iff_toNat_le] using h)], by omega, by omega, hb⟩
  obtain ⟨z, k, e2, hz, hk, hb2⟩ := s2
  simp only [bs] at e2
  rw [e2]; simp only [bs]
  have s3 : ∃ (x : UInt64) (j : Nat), (if decide (256 ≤ z) then some (w64 ((k : Int) + 8)) >>= fun y9 => some (shr64 z 8, y9) else some (z, (k : Int))) = some (x, (j : Int)) ∧ x.toNat < 256 ∧ j ≤ 56 ∧ bitLen a.toNat = j + bitLen x.toNat := by
    by_cases h : 256 ≤ z.toNat
    · refine ⟨shr64 z 8, k + 8, by rw [if_pos (by simpa [UInt64.le_iff_toNat_le] using h)]; simp only [bs, w64_eq (show -9223372036854775808 ≤ (k : Int) + 8 by omega) (by omega)]; rfl, ?_, by omega, ?_⟩
      · rw [shr_step z 8 (by omega)]; omega
      · rw [shr_step z 8 (by omega), hb2, bitLen_shift z.toNat 8 (by omega)]; omega
    · exact ⟨z, k, by rw [if_neg (by simpa [UInt64.le_iff_toNat_le] using h)], by omega, by omega, hb2⟩
  obtain ⟨x, j, e3, hx, hj, hb3⟩ := s3
  simp only [bs] at e3
  rw [e3]; simp only [bs]
  have ht := len8_all ⟨x.toNat, hx⟩
  have hx8 : (x.toUInt8.toNat : Int) = ((x.toNat : Nat) : Int) := by simp; omega
  have hle : bitLen x.toNat ≤ 8 := bitLen_le _ 8 (by omega)
  rw [hx8]
  have hlist : ∀ (l : List UInt8), l = len8tab.data.toList → idx l ((x.toNat : Nat) : Int) = some (UInt8.ofNat (bitLen x.toNat)) := fun l hl => by
    subst hl
    unfold idx
    rw [if_pos (by omega)]
    simpa using ht
  refine Eq.trans (congrArg (fun o : Option UInt8 => o >>= fun x10 => some (w64 ((j : Int) + (x10.toNat : Int)))) (hlist _ ?hh)) ?_
  case hh => rfl
  simp only [bs]
  have e4 : ((UInt8.ofNat (bitLen x.toNat)).toNat : Int) = (bitLen x.toNat : Int) := by simp; omega
  rw [e4, w64_eq (by omega) (by omega), hb3]
  simp
theorem wireNumber_eq (a : UInt64) : wire_Number a = some (numBytes a.toNat) := by
  unfold wire_Number
  have h0 := UInt64.toNat_lt a
  by_cases h : a.toNat ≤ 247
  · have h' : decide (a ≤ 247) = true := by simpa [UInt64.le_iff_toNat_le] using h
    unfold numBytes
    rw [if_pos h', if_pos h]
    congr 2
  · have h' : ¬ decide (a ≤ 247) = true := by simpa [UInt64.le_iff_toNat_le] using h
    rw [if_neg h', len64_eq]
    have hd := digits_le a.toNat h0
    have hl := digits_len a.toNat
    have hb : bitLen a.toNat ≤ 64 := bitLen_le _ 64 h0
    simp only [bs]
    rw [w64_eq (show -9223372036854775808 ≤ (bitLen a.toNat : Int) + 7 by omega) (by omega)]
    have e1 : Int.tdiv ((bitLen a.toNat : Int) + 7) 8 = ((digits a.toNat).length : Int) := by
      rw [hl, show ((bitLen a.toNat : Int) + 7) = ((bitLen a.toNat + 7 : Nat) : Int) by omega]
      rfl
    rw [e1, w64_eq (show -9223372036854775808 ≤ ((digits a.toNat).length : Int) by omega) (by omega), w64_nat (by omega), mkn_eq (by omega) (by omega)]
    simp only [bs]
    rw [show (0 : Int) = ((0 : Nat) : Int) from rfl, idx_nat (by simp)]
    simp only [bs, Int.toNat_natCast]
    rw [w64_eq (show -9223372036854775808 ≤ 247 + ((digits a.toNat).length : Int) by omega) (by omega)]
    have e2 : UInt8.ofInt (247 + ((digits a.toNat).length : Int)) = UInt8.ofNat (247 + (digits a.toNat).length) := by
      apply UInt8.toNat_inj.1
      rw [show (247 + ((digits a.toNat).length : Int)) = ((247 + (digits a.toNat).length : Nat) : Int) by omega]
      simp [UInt8.ofInt]
      omega
    have := fillNum_zero a.toNat
    rw [e2, this]
    have := wireNum_L0 a (digits a.toNat).length rfl hd
    rw [show (0 : Int) = ((0 : Nat) : Int) from rfl] at this
    rw [this]
    simp only [bs]
    rw [fillNum_last a.toNat (by omega)]
end Go.Proofs.Ytklfgpdfongaeaa
