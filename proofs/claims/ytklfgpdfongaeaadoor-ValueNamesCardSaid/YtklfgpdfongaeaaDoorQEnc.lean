/- Values: their bytes; what holds of the examples. Plain. -/
import Derived.Test.YtklfgpdfongaeaaDoorQCmp
namespace Go.Proofs.YtklfgpdfongaeaaDoor
open Go
set_option linter.unusedSimpArgs false
set_option linter.unusedVariables false
theorem same_from (a b : List UInt8) (hl : a.length = b.length) (hb : a.length ≤ 9223372036854775807) : ∀ (n i : Nat), a.length - i = n → i ≤ a.length → a.take i = b.take i →
    iter (braidref01_SameBytes_L0 a b) (i : Int) = some (if a = b then .inr () else .inl false) := by
  intro n
  induction n with
  | zero =>
    intro i hn hi he
    have : i = a.length := by omega
    subst this
    refine iter_l ?_
    unfold braidref01_SameBytes_L0
    have e : a = b := by rw [List.take_length, hl, List.take_length] at he; exact he
    rw [if_neg (by simp), if_pos e]
  | succ n ih =>
    intro i hn hi he
    have h1 : i < a.length := by omega
    have h2 : i < b.length := by omega
    have hF : braidref01_SameBytes_L0 a b (i : Int) = if a[i] = b[i] then some (.inr ((i + 1 : Nat) : Int)) else some (.inl (.inl false)) := by
      unfold braidref01_SameBytes_L0
      rw [if_pos (by simp <;> omega)]
      simp only [idx_nat h1, idx_nat h2, bs, w64_nat (show i < 9223372036854775807 by omega)]
      by_cases h : a[i] = b[i] <;> simp [h]
    by_cases h : a[i] = b[i]
    · rw [if_pos h] at hF
      rw [iter_r hF]
      exact ih (i + 1) (by omega) (by omega) (by rw [List.take_succ_eq_append_getElem h1, List.take_succ_eq_append_getElem h2, he, h])
    · rw [if_neg h] at hF
      rw [iter_l hF, if_neg (fun e => h (by subst e; rfl))]
theorem sameB_eq (a b : List UInt8) (hb : a.length ≤ 9223372036854775807) : braidref01_SameBytes a b = some (decide (a = b)) := by
  unfold braidref01_SameBytes
  by_cases hl : a.length = b.length
  · rw [if_neg (by simp [hl])]
    have := same_from a b hl hb _ 0 rfl (by omega) (by simp)
    rw [show (0 : Int) = ((0 : Nat) : Int) from rfl, this]
    by_cases h : a = b
    · rw [if_pos h, decide_eq_true h]; rfl
    · rw [if_neg h, decide_eq_false h]; rfl
  · rw [if_pos (by simp; omega), decide_eq_false (fun e => hl (by rw [e]))]
/-! ### whole numbers as bytes -/
theorem xor_ones (x : UInt64) : (x ^^^ 18446744073709551615).toNat = 18446744073709551615 - x.toNat := by
  have e : x ^^^ 18446744073709551615 = ~~~x := by
    apply UInt64.eq_of_toBitVec_eq
    rw [UInt64.toBitVec_xor, UInt64.toBitVec_not]
    exact BitVec.xor_allOnes
  rw [e, UInt64.toNat_not]; rfl
theorem ofInt_toNat (n : Int) : (UInt64.ofInt n).toNat = (n % 18446744073709551616).toNat := by
  simp [UInt64.ofInt]; omega
theorem zig_u (n : Int) (h : inI n) : ((shl64 (UInt64.ofInt n) 1) ^^^ (UInt64.ofInt (shrI n 63))).toNat = zig n := by
  obtain ⟨h1, h2⟩ := h
  have es : (shl64 (UInt64.ofInt n) 1).toNat = (n % 18446744073709551616).toNat * 2 % 18446744073709551616 := by
    rw [shl64_toNat, ofInt_toNat]; rfl
  by_cases h0 : 0 ≤ n
  · have e : shrI n 63 = 0 := by
      unfold shrI
      rw [show (2 : Int) ^ (min 63 64) = 9223372036854775808 from rfl, Int.fdiv_eq_ediv_of_nonneg _ (by omega)]; omega
    rw [e, show UInt64.ofInt 0 = 0 from rfl, UInt64.xor_zero, es]
    unfold zig; rw [if_pos h0]; omega
  · have e : shrI n 63 = -1 := by
      unfold shrI
      rw [show (2 : Int) ^ (min 63 64) = 9223372036854775808 from rfl, Int.fdiv_eq_ediv_of_nonneg _ (by omega)]; omega
    rw [e, show UInt64.ofInt (-1) = 18446744073709551615 from rfl, xor_ones, es]
    unfold zig; rw [if_neg h0]; omega
theorem signed_eq (n : Int) (h : inI n) : wire_Signed n = some (numBytes (zig n)) := by
  unfold wire_Signed
  rw [wireNumber_eq, zig_u n h]; rfl
theorem wbytes_eq (s : List UInt8) (h : s.length ≤ 10000) : wire_Bytes s = some (numBytes s.length ++ s, 0) := by
  unfold wire_Bytes
  rw [if_neg (by simp; omega), wireNumber_eq]
  have e : (UInt64.ofInt (s.length : Int)).toNat = s.length := by rw [ofInt_toNat]; omega
  have := numBytes_len s.length (by omega)
  simp only [bs, e]
  rw [app_eq (by omega)]; rfl
def be8 (b : UInt64) : List UInt8 := [(shr64 b 56).toUInt8, (shr64 b 48).toUInt8, (shr64 b 40).toUInt8, (shr64 b 32).toUInt8, (shr64 b 24).toUInt8, (shr64 b 16).toUInt8, (shr64 b 8).toUInt8, (shr64 b 0).toUInt8]
theorem encF_step (v : api_Value) (l : List UInt8) (k : Nat) (hl : l.length ≤ 100) (hk : k ≤ 56) : value_Encode_L1 v (l, (k : Int)) = some (.inr (l ++ [(shr64 v.Bits k).toUInt8], (k : Int) - 8)) := by
  unfold value_Encode_L1
  rw [if_pos (by simp)]
  simp only
  rw [chk_true (by omega)]
  simp only [bs, Int.toNat_natCast]
  rw [app_eq (by simp; omega)]
  simp only [bs]
  rw [w64_eq (by omega) (by omega)]
theorem encF_run (v : api_Value) : iter (value_Encode_L1 v) ([v.Kind], 56) = some (v.Kind :: be8 v.Bits) := by
  have hs := fun l k h1 h2 => encF_step v l k h1 h2
  rw [show (56 : Int) = ((56 : Nat) : Int) from rfl, iter_r (hs [v.Kind] 56 (by simp) (by omega))]
  simp only [List.cons_append, List.nil_append, show ((56 : Nat) : Int) - 8 = ((48 : Nat) : Int) from rfl]
  rw [iter_r (hs _ 48 (by simp) (by omega))]
  simp only [List.cons_append, List.nil_append, show ((48 : Nat) : Int) - 8 = ((40 : Nat) : Int) from rfl]
  rw [iter_r (hs _ 40 (by simp) (by omega))]
  simp only [List.cons_append, List.nil_append, show ((40 : Nat) : Int) - 8 = ((32 : Nat) : Int) from rfl]
  rw [iter_r (hs _ 32 (by simp) (by omega))]
  simp only [List.cons_append, List.nil_append, show ((32 : Nat) : Int) - 8 = ((24 : Nat) : Int) from rfl]
  rw [iter_r (hs _ 24 (by simp) (by omega))]
  simp only [List.cons_append, List.nil_append, show ((24 : Nat) : Int) - 8 = ((16 : Nat) : Int) from rfl]
  rw [iter_r (hs _ 16 (by simp) (by omega))]
  simp only [List.cons_append, List.nil_append, show ((16 : Nat) : Int) - 8 = ((8 : Nat) : Int) from rfl]
  rw [iter_r (hs _ 8 (by simp) (by omega))]
  simp only [List.cons_append, List.nil_append, show ((8 : Nat) : Int) - 8 = ((0 : Nat) : Int) from rfl]
  rw [iter_r (hs _ 0 (by simp) (by omega))]
  simp only [List.cons_append, List.nil_append]
  refine iter_l ?_
  unfold value_Encode_L1
  rw [if_neg (by simp)]; rfl
def encV (v : api_Value) : List UInt8 := v.Kind :: (if v.Kind = 1 then numBytes (zig v.Num) else if v.Kind = 2 then be8 v.Bits else numBytes v.Text.length ++ v.Text)
theorem zig_in {n : Int} (h : inI n) : zig n < 18446744073709551616 := zig_lt h.1 h.2
theorem enc_eq (v : api_Value) (hI : inI v.Num) (hl : v.Text.length ≤ 9223372036854775807) : value_Encode v = some (if okV v then (encV v, 0) else ([], 8)) := by
  unfold value_Encode
  rw [vCheck_eq v hl]
  cases hv : okV v
  · rfl
  simp only [bs, if_true]
  rw [if_neg (by simp)]
  unfold encV
  rcases okV_kind hv with k | k | k
  · have h1 := numBytes_len (zig v.Num) (zig_in hI)
    rw [k, signed_eq v.Num hI]
    simp only [bs]
    rw [if_pos (by decide), app_eq (by simp; omega)]; simp [bs]
  · rw [k, if_neg (by decide), if_pos (by decide), if_neg (by decide), if_pos rfl, ← k, encF_run]; rfl
  · have h3 := (okV3 hv k).2.2.1
    have h1 := numBytes_len v.Text.length (by omega)
    rw [k, wbytes_eq v.Text (by omega)]
    rw [if_neg (by decide), if_neg (by decide), if_pos (by decide), if_neg (by decide), if_neg (by decide), chk_true (by omega)]
    simp only [bs]
    rw [app_eq (by simp; omega)]; rfl
/-! ### what rises -/
def rise : List api_Value → Bool
  | a :: b :: l => okV a && okV b && decide (cmpV a b = -1) && rise (b :: l)
  | _ => true
theorem rise_at : ∀ (l : List api_Value) (i : Nat) (h : i + 1 < l.length), rise l = true → okV l[i] = true ∧ okV (l[i + 1]) = true ∧ cmpV l[i] (l[i + 1]) = -1
  | a :: b :: l, 0, _, h => by
    unfold rise at h; simp only [Bool.and_eq_true, decide_eq_true_eq] at h
    exact ⟨h.1.1.1, h.1.1.2, h.1.2⟩
  | a :: b :: l, i + 1, h0, h => by
    unfold rise at h; simp only [Bool.and_eq_true, decide_eq_true_eq] at h
    have := rise_at (b :: l) i (by simpa using h0) h.2
    simpa using this
  | [], _, h0, _ => by simp at h0
  | [_], _, h0, _ => by simp at h0
theorem rises_eq (l : List api_Value) (hl : l.length ≤ 100) (hw : ∀ v ∈ l, inI v.Num ∧ v.Text.length ≤ 9223372036854775807) (h : rise l = true) : braidlaw05_rises l = some true := by
  unfold braidlaw05_rises
  have step : ∀ i : Nat, i + 1 < l.length → braidlaw05_rises_L0 l (i : Int) = some (.inr ((i + 1 : Nat) : Int)) := by
    intro i hi
    obtain ⟨o1, o2, c⟩ := rise_at l i hi h
    have w1 := hw l[i] (List.getElem_mem _); have w2 := hw (l[i + 1]) (List.getElem_mem _)
    unfold braidlaw05_rises_L0
    rw [w64_nat (by omega), if_pos (by simp; omega)]
    simp only [idx_nat (show i < l.length by omega), idx_nat hi, bs]
    rw [vCmp_eq _ _ w1.1 w2.1 w1.2 w2.2, vCmp_eq _ _ w2.1 w1.1 w2.2 w1.2, vCmp_eq _ _ w1.1 w1.1 w1.2 w1.2, o1, o2]
    have c2 := ordV.anti l[i] (l[i + 1])
    have c3 := ordV.anti l[i] l[i]
    have e2 : cmpV (l[i + 1]) l[i] = 1 := by omega
    have e3 : cmpV l[i] l[i] = 0 := by omega
    simp only [Bool.and_self, if_true, bs, c, e2, e3]
    rfl
  obtain ⟨b, h1, h2⟩ := iter_up (F := braidlaw05_rises_L0 l) (l.length - 1) (fun i s => s = (i : Int)) (fun b => b = .inr ()) (fun i s hi hs => ⟨_, by rw [hs]; exact step i (by omega), rfl⟩) (fun s hs => ⟨_, by
    rw [hs]; unfold braidlaw05_rises_L0
    rw [w64_eq (by omega) (by omega), if_neg (by simp; omega)], rfl⟩) 0 0 (by omega) rfl
  rw [h1, h2]; rfl
theorem num1 : encV ⟨1, -1, 0, []⟩ = [1, 1] := by
  unfold encV; rw [if_pos rfl, nb1]
def nine : List api_Value := [⟨2, 0, 9223372036854775808, []⟩, ⟨1, 0, 0, []⟩, ⟨2, 0, 0, []⟩, ⟨1, 1, 0, []⟩, ⟨2, 0, 4607182418800017408, []⟩, ⟨2, 0, 4609434218613702656, []⟩, ⟨1, 2, 0, []⟩, ⟨1, 9223372036854775807, 0, []⟩, ⟨2, 0, 4890909195324358656, []⟩]
theorem nine_rise : rise nine = true := by decide +kernel
theorem canon_of : canonF 9223372036854775808 = 9223372036854775808 ∧ canonF 0 = 0 ∧ canonF 4607182418800017408 = 4607182418800017408 ∧ canonF 4609434218613702656 = 4609434218613702656 ∧ canonF 4890909195324358656 = 4890909195324358656 := by decide +kernel
theorem alive_eq : braidlaw05_alive = some true := by
  unfold braidlaw05_alive value_Number
  obtain ⟨c1, c2, c3, c4, c5⟩ := canon_of
  rw [vFloat_eq, vFloat_eq, vFloat_eq, vFloat_eq, vFloat_eq, c1, c2, c3, c4, c5]
  simp only [bs]
  rw [enc_eq _ ⟨by decide, by decide⟩ (by simp), show okV ⟨1, -1, 0, []⟩ = true by decide +kernel]
  have h9 := rises_eq nine (by simp [nine]) (by intro v hv; simp [nine] at hv; rcases hv with e | e | e | e | e | e | e | e | e <;> subst e <;> exact ⟨⟨by decide, by decide⟩, by simp⟩) nine_rise
  unfold nine at h9
  rw [h9]
  simp only [bs, if_true, num1]
  rw [sameB_eq _ _ (by simp)]; rfl
/-! ### the law -/
theorem fit_eq (v : api_Value) (h : v.Text.length ≤ 9223372036854775807) : braidlaw05_fit v = some (okV v) := by
  unfold braidlaw05_fit
  rw [rCheck_eq v h]
  by_cases hl : v.Text.length ≤ 100
  · rw [if_pos (by simp; omega)]
    cases okV v <;> rfl
  · rw [if_neg (by simp; omega)]
    cases hv : okV v
    · rfl
    · exfalso
      rcases okV_kind hv with k | k | k
      · rw [(okV1 hv k).2] at hl; simp at hl
      · rw [(okV2 hv k).2.1] at hl; simp at hl
      · have := (okV3 hv k).2.2.1; omega
theorem orders (a b c : api_Value) (wa : wf_api_Value a) (wb : wf_api_Value b) (wc : wf_api_Value c) : braidlaw05_ValueOrder a b c = some true := by
  obtain ⟨-, ia, -, ta, -⟩ := wa
  obtain ⟨-, ib, -, tb, -⟩ := wb
  obtain ⟨-, ic, -, tc, -⟩ := wc
  unfold braidlaw05_ValueOrder
  rw [fit_eq a ta, fit_eq b tb, fit_eq c tc, alive_eq]
  cases oa : okV a
  · rfl
  cases ob : okV b
  · rfl
  cases oc : okV c
  · rfl
  simp only [bs, Bool.not_true, Bool.false_eq_true, if_false]
  rw [vCmp_eq a b ia ib ta tb, vCmp_eq b a ib ia tb ta, vCmp_eq b c ib ic tb tc, vCmp_eq a c ia ic ta tc, oa, ob, oc]
  simp only [bs, Bool.and_self, if_true]
  have r1 := ordV.rng a b
  have n1 := ordV.anti a b
  have t1 := ordV.trans a b c
  have z1 := cmpV_eq oa ob
  have e : (w64 (0 - cmpV b a)) = cmpV a b := by rw [w64_eq (by omega) (by omega)]; omega
  have ez : ((cmpV a b == 0) != (decide (a = b))) = false := by
    by_cases h : a = b
    · have := z1.2 h; simp [h, this]; rw [h] at this; exact this
    · have : cmpV a b ≠ 0 := fun e => h (z1.1 e)
      simp [h, this]
  rw [e]
  have l1 : decide (cmpV a b < -1) = false := by simp; omega
  have l2 : decide (1 < cmpV a b) = false := by simp; omega
  simp only [l1, l2, ez, bne_self_eq_false, Bool.false_eq_true, if_false, bs]
  by_cases h1 : 0 < cmpV a b
  · simp [h1]
  · by_cases h2 : 0 < cmpV b c
    · simp [h1, h2]
    · have h3 := t1 (by omega) (by omega)
      simp [h1, h2, h3]
end Go.Proofs.YtklfgpdfongaeaaDoor
