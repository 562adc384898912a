/- Numbers, strings: what is read of bytes, by the program and by the reference. Plain. -/
import Derived.Test.YtklfgpdfongaeaaPRd0
namespace Go.Proofs.Ytklfgpdfongaeaa
open Go
set_option linter.unusedSimpArgs false
set_option linter.unusedVariables false
theorem or8 (a : UInt64) (x : UInt8) (h : a.toNat < 72057594037927936) : (shl64 a 8 ||| x.toUInt64).toNat = 256 * a.toNat + x.toNat := by
  have hx := x.toNat_lt
  rw [UInt64.toNat_or, shl64_toNat, show (2 : Nat) ^ min 8 64 = 256 from rfl, Nat.mod_eq_of_lt (by omega), UInt8.toNat_toUInt64]
  have := Nat.two_pow_add_eq_or_of_lt (i := 8) (b := x.toNat) (by omega) a.toNat
  rw [Nat.mul_comm a.toNat 256]; exact this.symm
theorem u64_of {a : UInt64} {n : Nat} (h : a.toNat = n) : a = UInt64.ofNat n := by rw [← h]; simp
theorem getD_get {l : List UInt8} {i : Nat} (h : i < l.length) : l.getD i 0 = l[i] := by simp [List.getD, h]
theorem rdn_L0 (l : List UInt8) (h8 : l.length ≤ 8) : iter (wire_ReadNumber_L0 l) (0, 0) = some (UInt64.ofNat (beVal l)) := by
  obtain ⟨b, h1, h2⟩ := iter_up (F := wire_ReadNumber_L0 l) l.length (fun i s => s.1.toNat = beVal (l.take i) ∧ s.2 = (i : Int)) (fun b => b = UInt64.ofNat (beVal l))
    (fun i s hi hs => by
      obtain ⟨s1, s2⟩ := s
      obtain ⟨e1, e2⟩ := hs
      simp only at e1 e2
      subst e2
      have hb := beVal_take_lt hi h8
      have ht := beVal_take hi
      rw [getD_get hi] at hb ht
      refine ⟨_, by unfold wire_ReadNumber_L0; rw [if_pos (by simp <;> omega)]; simp only [idx_nat hi, bs]; rfl, ?_, ?_⟩
      · show (shl64 s1 8 ||| l[i].toUInt64).toNat = _
        rw [or8 s1 l[i] (by omega), ht, e1]
      · exact w64_nat (by omega))
    (fun s hs => by
      obtain ⟨s1, s2⟩ := s
      obtain ⟨e1, e2⟩ := hs
      simp only at e1 e2
      subst e2
      refine ⟨_, by unfold wire_ReadNumber_L0; rw [if_neg (by simp)], ?_⟩
      rw [List.take_length] at e1
      exact u64_of e1) (0, 0) 0 (by omega) ⟨rfl, rfl⟩
  rw [h1, h2]
theorem le247 (x : UInt8) : decide (x ≤ 247) = decide (x.toNat ≤ 247) := by
  rw [decide_eq_decide, UInt8.le_iff_toNat_le]; rfl
theorem u8z (x : UInt8) : (x == 0) = decide (x.toNat = 0) := by
  rw [Bool.eq_iff_iff, beq_iff_eq, decide_eq_true_eq, ← UInt8.toNat_inj]; rfl
theorem rdNum_eq (b : List UInt8) (hb : b.length ≤ 9223372036854775807) : wire_ReadNumber b = some (UInt64.ofNat (readN b).1, ((readN b).2.1 : Int), ((readN b).2.2 : Int)) := by
  unfold wire_ReadNumber
  by_cases h0 : b.length = 0
  · rw [if_pos (by simp [h0]), readN_none (readNum_nil h0)]; rfl
  rw [if_neg (by simp; intro e; simp [e] at h0)]
  have h0' : 0 < b.length := by omega
  have i0 := idx_nat h0'
  have g0 := getD_get h0'
  have i0' : idx b 0 = some (b[0]) := i0
  rw [i0']
  simp only [bs, le247]
  by_cases h1 : b[0].toNat ≤ 247
  · rw [decide_eq_true h1, if_pos rfl, readN_some (readNum_small h0 (by rw [g0]; exact h1)), g0]
    congr 2
    apply UInt64.toNat_inj.1
    rw [UInt8.toNat_toUInt64]; simp
  rw [decide_eq_false h1, if_neg (by simp)]
  have hx := b[0].toNat_lt
  obtain ⟨k, hk⟩ : ∃ k : Nat, b[0].toNat - 247 = k := Exists.intro (b[0].toNat - 247) rfl
  have ek : w64 ((b[0].toNat : Int) - 247) = (k : Int) := by rw [w64_eq (by omega) (by omega)]; omega
  rw [ek]
  by_cases hbad : b.length ≤ k ∨ (b.getD 1 0).toNat = 0 ∨ (k = 1 ∧ (b.getD 1 0).toNat ≤ 247)
  · rw [readN_none (readNum_bad h0 (by rw [g0]; exact h1) (by rw [g0, hk]; exact hbad))]
    by_cases c1 : b.length ≤ k
    · rw [if_pos (by simp; omega)]; rfl
    · rw [if_neg (by simp; omega)]
      have l1 : 1 < b.length := by omega
      have i1 : idx b 1 = some (b[1]) := idx_nat l1
      have g1 := getD_get l1
      rw [g1] at hbad
      rw [i1]
      simp only [bs, u8z, le247]
      by_cases c2 : b[1].toNat = 0
      · rw [decide_eq_true c2]; rfl
      · have c3 : k = 1 ∧ b[1].toNat ≤ 247 := by omega
        rw [decide_eq_false c2, c3.1]
        simp only [Bool.false_eq_true, if_false]
        rw [if_pos (by decide), decide_eq_true c3.2]; rfl
  · rw [readN_some (readNum_good h0 (by rw [g0]; exact h1) (by rw [g0, hk]; exact hbad)), g0, hk]
    have l1 : 1 < b.length := by omega
    have i1 : idx b 1 = some (b[1]) := idx_nat l1
    have g1 := getD_get l1
    rw [g1] at hbad
    rw [if_neg (by simp; omega), i1]
    simp only [bs, u8z, le247]
    have c2 : ¬ b[1].toNat = 0 := by omega
    rw [decide_eq_false c2]
    simp only [Bool.false_eq_true, if_false]
    have hc : cut b 1 (w64 ((k : Int) + 1)) = some ((b.drop 1).take k) := by
      have e : w64 ((k : Int) + 1) = ((k + 1 : Nat) : Int) := w64_nat (by omega)
      rw [e]
      have := cut_eq (b := b) (i := 1) (j := k + 1) (by omega) (by omega)
      rw [show ((1 : Nat) : Int) = 1 from rfl] at this
      rw [this, Nat.add_sub_cancel]
    have he : w64 ((k : Int) + 1) = ((k + 1 : Nat) : Int) := w64_nat (by omega)
    have hin : (if ((k : Int) == 1) = true then (if decide (b[1].toNat ≤ 247) = true then some (.inl (0, 0, 12)) else some (.inr ())) else some (.inr ()) : Option (Sum (UInt64 × Int × Int) Unit)) = some (.inr ()) := by
      by_cases c3 : k = 1
      · have c4 : ¬ b[1].toNat ≤ 247 := by omega
        rw [decide_eq_false c4]; split <;> rfl
      · rw [if_neg (by simp; omega)]
    rw [hin, or_r, hc]
    simp only [bs]
    rw [rdn_L0 _ (by rw [List.length_take]; omega)]
    simp only [bs, he]; rfl
theorem xorI_unzig (u : UInt64) : xorI (w64 ((shr64 u 1).toNat : Int)) (w64 (0 - (w64 ((u &&& 1).toNat : Int)))) = unzig u.toNat := by
  have h0 := UInt64.toNat_lt u
  have h1 := unzig_bits (u := u.toNat) (by omega)
  have e1 : (shr64 u 1).toNat = u.toNat / 2 := by rw [shr64_toNat]; rfl
  have e2 : (u &&& 1).toNat = u.toNat % 2 := by rw [UInt64.toNat_and]; exact Nat.and_one_is_mod _
  rw [← h1]
  unfold xorI w64
  congr 2
  · rw [e1]; show ((u.toNat / 2 : Nat) : Int) = Int.fdiv (u.toNat : Int) 2; rw [Int.fdiv_eq_ediv_of_nonneg _ (by omega)]; rfl
  · congr 2
    rw [e2]
    have : bitsOf .and .u64 ((u.toNat : Nat) : Int) 1 = ((u.toNat % 2 : Nat) : Int) := by
      rw [bits_and64]
      have e3 : BitVec.ofInt 64 (u.toNat : Int) = BitVec.ofNat 64 u.toNat := BitVec.ofInt_natCast ..
      rw [e3, show BitVec.ofInt 64 1 = BitVec.ofNat 64 1 from rfl, BitVec.toNat_and, BitVec.toNat_ofNat, BitVec.toNat_ofNat, Nat.mod_eq_of_lt (by omega), show 1 % 2 ^ 64 = 1 from rfl, Nat.and_one_is_mod]
      rw [show ((u.toNat % 2 : Nat) : Int) = ((u.toNat % 2 : Nat) : Int) from rfl]
      exact nat_u64 _ (by omega)
    rw [this]
theorem rdSgn_eq (b : List UInt8) (hb : b.length ≤ 9223372036854775807) : wire_ReadSigned b = some ((readS b).1, ((readS b).2.1 : Int), ((readS b).2.2 : Int)) := by
  unfold wire_ReadSigned
  rw [rdNum_eq b hb]
  simp only [bs]
  have h1 := readN_lt b
  by_cases h : (readN b).2.2 = 0
  · rw [readS_ok h, h, if_neg (by simp), xorI_unzig]
    have : (UInt64.ofNat (readN b).1).toNat = (readN b).1 := by simp; omega
    rw [this]; rfl
  · rw [readS_no h, if_pos (by simp; omega)]; rfl
theorem rdPart_eq (b : List UInt8) (hb : b.length ≤ 9223372036854775807) (most : Int) (hm : most ≤ 9223372036854775807) (k : Nat) (hk : 0 < k) (hk2 : k ≤ 1000) : wire_part b most (k : Int) = some ((partL b most k).1, ((partL b most k).2.1 : Int), ((partL b most k).2.2 : Int)) := by
  unfold wire_part
  by_cases h1 : most < 0
  · rw [decide_eq_true h1, if_pos rfl, partL_arg h1]; rfl
  rw [decide_eq_false h1, if_neg (by simp), rdNum_eq b hb]
  simp only [bs]
  have hl := readN_lt b
  have hu := readN_used b
  have en : (UInt64.ofNat (readN b).1).toNat = (readN b).1 := by simp; omega
  have e1 : decide (UInt64.ofInt most < UInt64.ofNat (readN b).1) = decide (most < ((readN b).1 : Int)) := by
    rw [decide_eq_decide, UInt64.lt_iff_toNat_lt, ofInt_toNat, en]; omega
  obtain ⟨D, hD⟩ : ∃ D : Nat, (b.length - (readN b).2.1) / k = D := Exists.intro _ rfl
  have hd : D ≤ b.length := by rw [← hD]; exact Nat.le_trans (Nat.div_le_self _ _) (Nat.sub_le _ _)
  have e2 : w64 (Int.tdiv (w64 ((b.length : Int) - (readN b).2.1)) (k : Int)) = (D : Int) := by
    rw [w64_eq (x := (b.length : Int) - (readN b).2.1) (by omega) (by omega), show (b.length : Int) - ((readN b).2.1 : Int) = ((b.length - (readN b).2.1 : Nat) : Int) by omega, Int.tdiv_eq_ediv_of_nonneg (by omega), ← Int.natCast_ediv, hD, w64_eq (by omega) (by omega)]
  have e3 : decide (UInt64.ofInt (w64 (Int.tdiv (w64 ((b.length : Int) - (readN b).2.1)) (k : Int))) < UInt64.ofNat (readN b).1) = decide ((b.length - (readN b).2.1) / k < (readN b).1) := by
    rw [decide_eq_decide, UInt64.lt_iff_toNat_lt, e2, ofInt_toNat, en, hD]; omega
  rw [e1, e3]
  by_cases h2 : (readN b).2.2 ≠ 0 ∨ most < ((readN b).1 : Int) ∨ (b.length - (readN b).2.1) / k < (readN b).1
  · rw [partL_bad h1 h2]
    have hs : (if ((((readN b).2.2 : Nat) : Int) != 0) = true then some true else if decide (most < ((readN b).1 : Int)) = true then some true else chk ((k : Int) ≠ 0) >>= fun u7 => some (decide ((b.length - (readN b).2.1) / k < (readN b).1))) = some true := by
      by_cases c1 : (readN b).2.2 = 0
      · rw [if_neg (by simp [c1])]
        by_cases c2 : most < ((readN b).1 : Int)
        · rw [decide_eq_true c2, if_pos rfl]
        · rw [decide_eq_false c2, if_neg (by simp), chk_true (by omega), decide_eq_true (by omega)]; rfl
      · rw [if_pos (by simp; omega)]
    rw [hs]; rfl
  · rw [partL_good h1 h2]
    have hf := part_fits (b := b) (k := k) (by omega)
    have hs : (if ((((readN b).2.2 : Nat) : Int) != 0) = true then some true else if decide (most < ((readN b).1 : Int)) = true then some true else chk ((k : Int) ≠ 0) >>= fun u7 => some (decide ((b.length - (readN b).2.1) / k < (readN b).1))) = some false := by
      rw [if_neg (by simp; omega), decide_eq_false (by omega), if_neg (by simp), chk_true (by omega), decide_eq_false (by omega)]; rfl
    rw [hs]
    simp only [bs, Bool.false_eq_true, if_false, en]
    have hmul : (k : Int) * ((readN b).1 : Int) = ((k * (readN b).1 : Nat) : Int) := by rw [Int.natCast_mul]
    have h9 : (readN b).1 ≤ k * (readN b).1 := Nat.le_mul_of_pos_left _ hk
    have e5 : w64 (((readN b).2.1 : Int) + w64 ((k : Int) * w64 ((readN b).1 : Int))) = (((readN b).2.1 + k * (readN b).1 : Nat) : Int) := by
      rw [w64_eq (x := ((readN b).1 : Int)) (by omega) (by omega), hmul, w64_eq (x := ((k * (readN b).1 : Nat) : Int)) (by omega) (by omega), w64_eq (by omega) (by omega)]; omega
    rw [e5, cut_eq (by omega) (by omega)]
    simp only [bs, Nat.add_sub_cancel_left]; rfl
theorem rdBytes_eq (b : List UInt8) (hb : b.length ≤ 100000) (most : Int) (hm : most ≤ 9223372036854775807) : wire_ReadBytes b most = some ((partL b most 1).1, ((partL b most 1).2.1 : Int), ((partL b most 1).2.2 : Int)) := by
  unfold wire_ReadBytes bytes_Clone
  have := rdPart_eq b (by omega) most hm 1 (by decide) (by decide)
  rw [show ((1 : Nat) : Int) = 1 from rfl] at this
  rw [this]
  have hl := partL_len b most 1
  simp only [bs]
  rw [app_eq (by simp; omega)]; rfl
/-! ### the reference -/
theorem refStarts_eq (b s : List UInt8) (hb : b.length ≤ 9223372036854775807) : braidref04_starts b s = some (decide (b.take s.length = s)) := by
  unfold braidref04_starts
  by_cases h : s.length ≤ b.length
  · rw [if_pos (by simp; omega)]
    have := cut_eq (b := b) (i := 0) (j := s.length) (by omega) h
    rw [show ((0 : Nat) : Int) = 0 from rfl, List.drop_zero, Nat.sub_zero] at this
    rw [this]
    simp only [bs]
    rw [sameB_eq _ _ (by rw [List.length_take]; omega)]; rfl
  · rw [if_neg (by simp; omega), decide_eq_false (fun e => by have := congrArg List.length e; rw [List.length_take] at this; omega)]
theorem refRdn_L0 (b : List UInt8) (h0 : b.length ≠ 0) (k : Nat) (hk : k ≤ 8) : iter (braidref04_ReadNumber_L0 b (k : Int)) (0, 1) = some (UInt64.ofNat (beVal ((b.drop 1).take k))) := by
  have hn : ∀ i, i ≤ min k (b.length - 1) → ((b.drop 1).take i).length = i := fun i hi => by rw [List.length_take, List.length_drop]; omega
  obtain ⟨r, h1, h2⟩ := iter_up (F := braidref04_ReadNumber_L0 b (k : Int)) (min k (b.length - 1)) (fun i s => s.1.toNat = beVal ((b.drop 1).take i) ∧ s.2 = ((i + 1 : Nat) : Int)) (fun r => r = UInt64.ofNat (beVal ((b.drop 1).take k)))
    (fun i s hi hs => by
      obtain ⟨s1, s2⟩ := s
      obtain ⟨e1, e2⟩ := hs
      simp only at e1 e2
      subst e2
      have hi1 : i + 1 < b.length := by omega
      have hb := beVal_drop_take hi1
      rw [getD_get hi1] at hb
      have h7 := beVal_lt7 ((b.drop 1).take i) (by rw [hn i (by omega)]; omega)
      have hx := b[i + 1].toNat_lt
      refine ⟨_, by unfold braidref04_ReadNumber_L0; rw [if_pos (by simp; omega), if_pos (by simp; omega)]; simp only [idx_nat hi1, bs]; rfl, ?_, ?_⟩
      · show ((256 : UInt64) * s1 + b[i + 1].toUInt64).toNat = _
        rw [UInt64.toNat_add, UInt64.toNat_mul, UInt8.toNat_toUInt64, hb, e1, show (256 : UInt64).toNat = 256 from rfl]; omega
      · exact w64_nat (by omega))
    (fun s hs => by
      obtain ⟨s1, s2⟩ := s
      obtain ⟨e1, e2⟩ := hs
      simp only at e1 e2
      subst e2
      have e3 : (b.drop 1).take (min k (b.length - 1)) = (b.drop 1).take k := by
        rcases Nat.le_total k (b.length - 1) with h | h
        · rw [Nat.min_eq_left h]
        · rw [Nat.min_eq_right h, List.take_of_length_le (by simp), List.take_of_length_le (by simp; omega)]
      rw [e3] at e1
      refine ⟨s1, ?_, u64_of e1⟩
      unfold braidref04_ReadNumber_L0
      by_cases c : ((min k (b.length - 1) + 1 : Nat) : Int) ≤ (k : Int)
      · rw [if_pos (by simpa using c), if_neg (by simp; omega)]
      · rw [if_neg (by simpa using c)]) (0, 1) 0 (by omega) ⟨rfl, rfl⟩
  rw [h1, h2]
theorem refRdNum_eq (b : List UInt8) (hb : b.length ≤ 9223372036854775807) : braidref04_ReadNumber b = some (UInt64.ofNat (readN b).1, ((readN b).2.1 : Int), ((readN b).2.2 : Int)) := by
  unfold braidref04_ReadNumber
  by_cases h0 : b.length = 0
  · rw [if_pos (by simp [h0]), readN_none (readNum_nil h0)]; rfl
  rw [if_neg (by simp; intro e; simp [e] at h0)]
  have h0' : 0 < b.length := by omega
  have g0 := getD_get h0'
  have i0 : idx b 0 = some (b[0]) := idx_nat h0'
  have hx := b[0].toNat_lt
  have hr := refNum_lt b
  have hs4 : (if decide ((247 : UInt64) < b[0].toUInt64) = true then iter (braidref04_ReadNumber_L0 b (w64 ((w64 (b[0].toUInt64.toNat : Int)) - 247))) (0, 1) else some b[0].toUInt64) = some (UInt64.ofNat (refNum b)) := by
    have e1 : decide ((247 : UInt64) < b[0].toUInt64) = decide (247 < b[0].toNat) := by rw [decide_eq_decide, UInt64.lt_iff_toNat_lt, UInt8.toNat_toUInt64]; rfl
    rw [e1, UInt8.toNat_toUInt64]
    by_cases h1 : b[0].toNat ≤ 247
    · rw [decide_eq_false (by omega), if_neg (by simp)]
      congr 1
      refine u64_of ?_
      rw [UInt8.toNat_toUInt64]; unfold refNum; rw [g0, if_pos h1]
    · rw [decide_eq_true (by omega), if_pos rfl]
      have e9 : ∀ n : Nat, 247 ≤ n → (n : Int) - 247 = ((n - 247 : Nat) : Int) := by omega
      rw [w64_eq (x := (b[0].toNat : Int)) (by omega) (by omega), w64_eq (by omega) (by omega), e9 _ (by omega), refRdn_L0 b h0 _ (by omega)]
      unfold refNum; rw [g0, if_neg h1]
  rw [i0]
  simp only [bs]
  rw [hs4]
  simp only [bs]
  have en : (UInt64.ofNat (refNum b)).toNat = refNum b := by simp; omega
  rw [refNumber_eq, en]
  simp only [bs]
  rw [refStarts_eq b _ hb]
  simp only [bs]
  by_cases h : b.take (numBytes (refNum b)).length = numBytes (refNum b)
  · rw [readNum_ref_yes h, decide_eq_true h]; rfl
  · rw [readNum_ref_no h0 h, decide_eq_false h]; rfl
theorem refRdBytes_eq (b : List UInt8) (hb : b.length ≤ 100000) (most : Int) (hm : most ≤ 9223372036854775807) : braidref04_ReadBytes b most = some ((partL b most 1).1, ((partL b most 1).2.1 : Int), ((partL b most 1).2.2 : Int)) := by
  unfold braidref04_ReadBytes
  by_cases h1 : most < 0
  · rw [decide_eq_true h1, if_pos rfl, partL_arg h1]; rfl
  rw [decide_eq_false h1, if_neg (by simp), refRdNum_eq b (by omega)]
  simp only [bs]
  have hl := readN_lt b
  have hu := readN_used b
  have en : (UInt64.ofNat (readN b).1).toNat = (readN b).1 := by simp; omega
  have e1 : decide (UInt64.ofInt most < UInt64.ofNat (readN b).1) = decide (most < ((readN b).1 : Int)) := by
    rw [decide_eq_decide, UInt64.lt_iff_toNat_lt, ofInt_toNat, en]; omega
  have e2 : w64 ((b.length : Int) - (readN b).2.1) = ((b.length - (readN b).2.1 : Nat) : Int) := by rw [w64_eq (by omega) (by omega)]; omega
  have e3 : decide (UInt64.ofInt (w64 ((b.length : Int) - (readN b).2.1)) < UInt64.ofNat (readN b).1) = decide (b.length - (readN b).2.1 < (readN b).1) := by
    rw [decide_eq_decide, UInt64.lt_iff_toNat_lt, e2, ofInt_toNat, en]; omega
  rw [e1, e3]
  have hd : (b.length - (readN b).2.1) / 1 = b.length - (readN b).2.1 := Nat.div_one _
  by_cases h2 : (readN b).2.2 ≠ 0 ∨ most < ((readN b).1 : Int) ∨ (b.length - (readN b).2.1) / 1 < (readN b).1
  · rw [partL_bad h1 h2]
    have hs : (if ((((readN b).2.2 : Nat) : Int) != 0) = true then some true else if decide (most < ((readN b).1 : Int)) = true then some true else some (decide (b.length - (readN b).2.1 < (readN b).1))) = some true := by
      by_cases c1 : (readN b).2.2 = 0
      · rw [if_neg (by simp [c1])]
        by_cases c2 : most < ((readN b).1 : Int)
        · rw [decide_eq_true c2, if_pos rfl]
        · rw [decide_eq_false c2, if_neg (by simp), decide_eq_true (by omega)]
      · rw [if_pos (by simp; omega)]
    rw [hs]; rfl
  · rw [partL_good h1 h2]
    have hf := part_fits (b := b) (k := 1) (by omega)
    have hs : (if ((((readN b).2.2 : Nat) : Int) != 0) = true then some true else if decide (most < ((readN b).1 : Int)) = true then some true else some (decide (b.length - (readN b).2.1 < (readN b).1))) = some false := by
      rw [if_neg (by simp; omega), decide_eq_false (by omega), if_neg (by simp), decide_eq_false (by omega)]
    rw [hs]
    simp only [bs, Bool.false_eq_true, if_false, en]
    have e5 : w64 (((readN b).2.1 : Int) + w64 ((readN b).1 : Int)) = (((readN b).2.1 + 1 * (readN b).1 : Nat) : Int) := by
      rw [w64_eq (x := ((readN b).1 : Int)) (by omega) (by omega), w64_eq (by omega) (by omega)]; omega
    rw [e5, cut_eq (by omega) (by omega)]
    simp only [bs, Nat.add_sub_cancel_left]
    rw [app_eq (by simp; omega)]; rfl
end Go.Proofs.Ytklfgpdfongaeaa
