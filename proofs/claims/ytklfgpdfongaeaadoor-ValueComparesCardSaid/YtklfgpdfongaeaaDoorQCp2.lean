/- Values: the reference writes and reads as the program does: the law ValueCompares. Plain. -/
import Derived.Test.YtklfgpdfongaeaaDoorQCps
namespace Go.Proofs.YtklfgpdfongaeaaDoor
open Go
set_option linter.unusedSimpArgs false
set_option linter.unusedVariables false
theorem rCmp_eq (a b : api_Value) (ia : inI a.Num) (ib : inI b.Num) (la : a.Text.length ≤ 9223372036854775807) (lb : b.Text.length ≤ 9223372036854775807) :
    braidref05_Cmp a b = some (if okV a && okV b then (cmpV a b, 0) else (0, 8)) := by
  unfold braidref05_Cmp
  rw [rCheck_eq a la, rCheck_eq b lb]
  cases ha : okV a
  · rfl
  cases hb : okV b
  · rfl
  simp only [bs, if_true, Bool.and_self]
  rw [rCompare_eq a b ia ib ha hb]; rfl
theorem refSigned_eq (n : Int) (h : inI n) : braidref04_Signed n = some (numBytes (zig n)) := by
  obtain ⟨h1, h2⟩ := h
  unfold braidref04_Signed
  by_cases h0 : 0 ≤ n
  · rw [if_pos (by simpa using h0), refNumber_eq]
    have e : (2 * UInt64.ofInt n).toNat = zig n := by
      rw [UInt64.toNat_mul, ofInt_toNat, show (2 : UInt64).toNat = 2 from rfl]
      unfold zig; rw [if_pos h0]; omega
    rw [e]; rfl
  · rw [if_neg (by simpa using h0), refNumber_eq]
    have e : ((2 * UInt64.ofInt (w64 (0 - (w64 (n + 1))))) + 1).toNat = zig n := by
      rw [w64_eq (x := n + 1) (by omega) (by omega), w64_eq (by omega) (by omega), UInt64.toNat_add, UInt64.toNat_mul, ofInt_toNat, show (2 : UInt64).toNat = 2 from rfl, show (1 : UInt64).toNat = 1 from rfl]
      unfold zig; rw [if_neg h0]; omega
    rw [e]; rfl
theorem refText_eq (s : List UInt8) (h : s.length ≤ 100000) : braidref04_Text s = some (numBytes s.length ++ s) := by
  unfold braidref04_Text
  rw [refNumber_eq]
  have e : (UInt64.ofInt (s.length : Int)).toNat = s.length := by rw [ofInt_toNat]; omega
  have := numBytes_len s.length (by omega)
  rw [e]
  simp only [bs]
  rw [app_eq (by omega)]; rfl
theorem rByt_step (v : api_Value) (l : List UInt8) (k : Nat) (hl : l.length ≤ 100) (hk : k ≤ 7) : braidref05_Bytes_L1 v (l, (k : Int)) = some (.inr (l ++ [(shr64 v.Bits (8 * k)).toUInt8], (k : Int) - 1)) := by
  unfold braidref05_Bytes_L1
  rw [if_pos (by simp)]
  simp only
  have e : w64 (8 * (k : Int)) = ((8 * k : Nat) : Int) := by rw [w64_eq (by omega) (by omega)]; omega
  rw [e, chk_true (by omega)]
  simp only [bs, Int.toNat_natCast]
  rw [app_eq (by simp; omega)]
  simp only [bs]
  rw [w64_eq (by omega) (by omega)]
theorem rByt_run (v : api_Value) : iter (braidref05_Bytes_L1 v) ([v.Kind], 7) = some (v.Kind :: be8 v.Bits) := by
  have hs := fun l k h1 h2 => rByt_step v l k h1 h2
  rw [show (7 : Int) = ((7 : Nat) : Int) from rfl, iter_r (hs [v.Kind] 7 (by simp) (by omega))]
  simp only [List.cons_append, List.nil_append, show ((7 : Nat) : Int) - 1 = ((6 : Nat) : Int) from rfl]
  rw [iter_r (hs _ 6 (by simp) (by omega))]
  simp only [List.cons_append, List.nil_append, show ((6 : Nat) : Int) - 1 = ((5 : Nat) : Int) from rfl]
  rw [iter_r (hs _ 5 (by simp) (by omega))]
  simp only [List.cons_append, List.nil_append, show ((5 : Nat) : Int) - 1 = ((4 : Nat) : Int) from rfl]
  rw [iter_r (hs _ 4 (by simp) (by omega))]
  simp only [List.cons_append, List.nil_append, show ((4 : Nat) : Int) - 1 = ((3 : Nat) : Int) from rfl]
  rw [iter_r (hs _ 3 (by simp) (by omega))]
  simp only [List.cons_append, List.nil_append, show ((3 : Nat) : Int) - 1 = ((2 : Nat) : Int) from rfl]
  rw [iter_r (hs _ 2 (by simp) (by omega))]
  simp only [List.cons_append, List.nil_append, show ((2 : Nat) : Int) - 1 = ((1 : Nat) : Int) from rfl]
  rw [iter_r (hs _ 1 (by simp) (by omega))]
  simp only [List.cons_append, List.nil_append, show ((1 : Nat) : Int) - 1 = ((0 : Nat) : Int) from rfl]
  rw [iter_r (hs _ 0 (by simp) (by omega))]
  simp only [List.cons_append, List.nil_append]
  refine iter_l ?_
  unfold braidref05_Bytes_L1
  rw [if_neg (by simp)]; rfl
theorem rEnc_eq (v : api_Value) (hI : inI v.Num) (hl : v.Text.length ≤ 9223372036854775807) : braidref05_Encode v = some (if okV v then (encV v, 0) else ([], 8)) := by
  unfold braidref05_Encode
  rw [rCheck_eq v hl]
  cases hv : okV v
  · rfl
  simp only [bs, if_true]
  rw [if_neg (by simp)]
  unfold encV braidref05_Bytes
  rcases okV_kind hv with k | k | k
  · have h1 := numBytes_len (zig v.Num) (zig_in hI)
    rw [k, refSigned_eq v.Num hI]
    simp only [bs]
    rw [if_pos (by decide), app_eq (by simp; omega)]; simp [bs]
  · rw [k, if_neg (by decide), if_pos (by decide), if_neg (by decide), if_pos rfl, ← k, rByt_run]; rfl
  · have h3 := (okV3 hv k).2.2.1
    have h1 := numBytes_len v.Text.length (by omega)
    rw [k, refText_eq v.Text (by omega)]
    rw [if_neg (by decide), if_neg (by decide), if_neg (by decide), if_neg (by decide), chk_true (by omega)]
    simp only [bs]
    rw [app_eq (by simp; omega)]; rfl
theorem rDec_L1 (k : UInt8) (r : List UInt8) : ∃ u, iter (braidref05_Decode_L1 (k :: r)) (⟨2, 0, 0, []⟩, 1) = some ⟨2, 0, u, []⟩ ∧ (8 ≤ r.length → u = UInt64.ofNat (beVal (r.take 8))) := by
  have h := iter_up (F := braidref05_Decode_L1 (k :: r)) (min 8 r.length) (fun i s => ∃ u : UInt64, s.1 = ⟨2, 0, u, []⟩ ∧ u.toNat = beVal (r.take i) ∧ s.2 = ((i + 1 : Nat) : Int)) (fun b => ∃ u : UInt64, b = (⟨2, 0, u, []⟩ : api_Value) ∧ u.toNat = beVal (r.take (min 8 r.length)))
    (fun i s hi hs => by
      obtain ⟨s1, s2⟩ := s
      obtain ⟨u, e0, e1, e2⟩ := hs
      simp only at e0 e1 e2
      subst e2 e0
      have hi1 : i < r.length := by omega
      have ht := beVal_take hi1
      rw [getD_get hi1] at ht
      have h7 := beVal_lt7 (r.take i) (by rw [List.length_take]; omega)
      have hx := r[i].toNat_lt
      have hidx : idx (k :: r) ((i + 1 : Nat) : Int) = some r[i] := by
        have := idx_nat (l := k :: r) (i := i + 1) (by simp; omega)
        rw [this]; simp
      refine ⟨_, by unfold braidref05_Decode_L1; rw [if_pos (by simp; omega), if_pos (by simp; omega)]; simp only [hidx, bs]; rfl, (256 : UInt64) * u + r[i].toUInt64, rfl, ?_, ?_⟩
      · rw [UInt64.toNat_add, UInt64.toNat_mul, UInt8.toNat_toUInt64, ht, e1, show (256 : UInt64).toNat = 256 from rfl]; omega
      · exact w64_nat (by omega))
    (fun s hs => by
      obtain ⟨s1, s2⟩ := s
      obtain ⟨u, e0, e1, e2⟩ := hs
      simp only at e0 e1 e2
      subst e2 e0
      refine ⟨⟨2, 0, u, []⟩, ?_, u, rfl, e1⟩
      unfold braidref05_Decode_L1
      by_cases c : 8 ≤ r.length
      · rw [if_neg (by simp; omega)]
      · rw [if_pos (by simp; omega), if_neg (by simp; omega)]) (⟨2, 0, 0, []⟩, 1) 0 (by omega) ⟨0, rfl, rfl, rfl⟩
  obtain ⟨b, h1, u, h2, h3⟩ := h
  refine ⟨u, by rw [h1, h2], fun h8 => ?_⟩
  rw [Nat.min_eq_left h8] at h3
  exact u64_of h3
theorem rfin_eq (v : api_Value) (u e n : Nat) (hv : v.Text.length ≤ 9223372036854775807) (hu : u ≤ 100) :
    ((if ((e : Int) != 0) = true then some true else if decide ((n : Int) < w64 ((u : Int) + 1)) = true then some true else braidref05_Check v >>= fun r31 => some (r31 != 0)) >>= fun s28 => if s28 then some ((⟨0, 0, 0, []⟩ : api_Value), (0 : Int), (12 : Int)) else some (w64 ((u : Int) + 1)) >>= fun y34 => some (v, y34, 0)) =
    some (if (e = 0 ∧ u < n) ∧ okV v = true then (v, ((u + 1 : Nat) : Int), 0) else (⟨0, 0, 0, []⟩, 0, 12)) := by
  rw [rCheck_eq v hv, w64_nat (by omega)]
  by_cases he : e = 0
  · rw [if_neg (by simp [he])]
    by_cases hn : u < n
    · rw [if_neg (by simp; omega)]
      cases ok : okV v
      · have hx : ¬ ((e = 0 ∧ u < n) ∧ false = true) := by simp
        rw [if_neg hx]; rfl
      · rw [if_pos (⟨⟨he, hn⟩, rfl⟩ : (e = 0 ∧ u < n) ∧ true = true)]
        simp only [bs, if_true, bne_self_eq_false, Bool.false_eq_true, if_false]
    · rw [if_pos (by simp; omega), if_neg (fun h => hn h.1.2)]; rfl
  · rw [if_pos (by simp; omega), if_neg (fun h => he h.1.1)]; rfl
theorem readS_used (r : List UInt8) : (readS r).2.1 ≤ r.length := by
  have h := readN_used r
  by_cases h1 : (readN r).2.2 = 0
  · rw [readS_ok h1]; exact h
  · rw [readS_no h1]; simp
theorem partL_used (r : List UInt8) : (partL r 30 1).2.1 ≤ r.length := by
  have h := readN_used r
  by_cases hb : (readN r).2.2 ≠ 0 ∨ (30 : Int) < ((readN r).1 : Int) ∨ (r.length - (readN r).2.1) / 1 < (readN r).1
  · rw [partL_bad (by decide) hb]; simp
  · have hf := part_fits (b := r) (k := 1) (by omega)
    rw [partL_good (by decide) hb]; simp only; omega
theorem rDec_eq (b : List UInt8) (hb : b.length ≤ 10000) : braidref05_Decode b = some ((decV b).1, ((decV b).2.1 : Int), ((decV b).2.2 : Int)) := by
  unfold braidref05_Decode decV
  match b, hb with
  | [], _ => rfl
  | k :: r, hb =>
    simp only [List.length_cons] at hb
    rw [if_neg (by simp; omega)]
    have i0 : idx (k :: r) 0 = some k := idx_nat (l := k :: r) (i := 0) (by simp)
    have hc : cut (k :: r) 1 ((k :: r).length : Int) = some r := by
      have := cut_eq (b := k :: r) (i := 1) (j := (k :: r).length) (by simp) (by simp)
      rw [show ((1 : Nat) : Int) = 1 from rfl] at this
      rw [this]; simp
    rw [i0]
    simp only [bs]
    rw [hc]
    simp only [bs]
    have fin : ∀ (v : api_Value) (u e : Nat), v.Text.length ≤ 9223372036854775807 → u ≤ 100 → u ≤ r.length → rawV k r = (v, u, e) →
        ((if ((e : Int) != 0) = true then some true else if decide (((k :: r).length : Int) < w64 ((u : Int) + 1)) = true then some true else braidref05_Check v >>= fun r31 => some (r31 != 0)) >>= fun s28 => if s28 then some ((⟨0, 0, 0, []⟩ : api_Value), (0 : Int), (12 : Int)) else some (w64 ((u : Int) + 1)) >>= fun y34 => some (v, y34, 0)) =
        some ((if (rawV k r).2.2 = 0 ∧ okV (rawV k r).1 = true then ((rawV k r).1, (rawV k r).2.1 + 1, 0) else badV).1, (((if (rawV k r).2.2 = 0 ∧ okV (rawV k r).1 = true then ((rawV k r).1, (rawV k r).2.1 + 1, 0) else badV).2.1 : Nat) : Int), (((if (rawV k r).2.2 = 0 ∧ okV (rawV k r).1 = true then ((rawV k r).1, (rawV k r).2.1 + 1, 0) else badV).2.2 : Nat) : Int)) := by
      intro v u e hv hu hur hr
      rw [rfin_eq v u e (k :: r).length hv hu, hr]
      have hlt : u < (k :: r).length := by simp; omega
      by_cases h : e = 0 ∧ okV v = true
      · rw [if_pos h, if_pos ⟨⟨h.1, hlt⟩, h.2⟩]; rfl
      · rw [if_neg h, if_neg (fun q => h ⟨q.1.1, q.2⟩)]; rfl
    by_cases k1 : k = 1
    · have hr := readS_small r
      subst k1
      rw [if_pos (by decide), refRdSgn_eq r (by omega)]
      simp only [bs]
      exact fin _ _ _ (by simp) (by omega) (readS_used r) (by unfold rawV; rw [if_pos rfl])
    have c1 : (k == 1) = false := by simpa using k1
    rw [c1]
    simp only [Bool.false_eq_true, if_false]
    by_cases k2 : k = 2
    · subst k2
      obtain ⟨u, hu1, hu2⟩ := rDec_L1 2 r
      rw [if_pos (by decide), hu1]
      simp only [bs]
      by_cases h8 : r.length < 8
      · have e2 := rfin_eq (⟨2, 0, u, []⟩ : api_Value) 8 0 ((2 : UInt8) :: r).length (by simp) (by omega)
        rw [show ((8 : Nat) : Int) = 8 from rfl, show ((0 : Nat) : Int) = 0 from rfl] at e2
        refine e2.trans ?_
        have : rawV 2 r = badV := by unfold rawV; rw [if_neg (by decide), if_pos rfl, if_pos h8]
        rw [this, if_neg (fun q => by have := q.1.2; simp at this; omega)]; rfl
      · exact fin ⟨2, 0, u, []⟩ 8 0 (by simp) (by omega) (by omega) (by unfold rawV; rw [if_neg (by decide), if_pos rfl, if_neg h8, hu2 (by omega)])
    have c2 : (k == 2) = false := by simpa using k2
    rw [c2]
    simp only [Bool.false_eq_true, if_false]
    by_cases k3 : k = 3
    · have hr := partL_small r
      subst k3
      rw [if_pos (by decide), refRdBytes_eq r (by omega) 30 (by decide)]
      simp only [bs]
      exact fin _ _ _ (by show (partL r 30 1).1.length ≤ _; omega) (by omega) (partL_used r) (by unfold rawV; rw [if_neg (by decide), if_neg (by decide), if_pos rfl])
    have c3 : (k == 3) = false := by simpa using k3
    rw [c3]
    simp only [Bool.false_eq_true, if_false, bs]
    exact fin ⟨k, 0, 0, []⟩ 0 0 (by simp) (by omega) (by omega) (by unfold rawV; rw [if_neg k1, if_neg k2, if_neg k3])
theorem compares (v w : api_Value) (b : List UInt8) (wv : wf_api_Value v) (ww : wf_api_Value w) (_ : (∀ x ∈ b, (fun _ => True) x) ∧ b.length ≤ 9223372036854775807) : braidlaw05_ValueCompares v w b = some true := by
  obtain ⟨-, iv, -, tv, -⟩ := wv
  obtain ⟨-, iw, -, tw, -⟩ := ww
  unfold braidlaw05_ValueCompares
  by_cases h1 : 100 < v.Text.length
  · rw [if_pos (by simp; omega)]; rfl
  by_cases h2 : 100 < w.Text.length
  · rw [if_neg (by simp; omega), if_pos (by simp; omega)]; rfl
  by_cases h3 : 100 < b.length
  · rw [if_neg (by simp; omega), if_neg (by simp; omega), decide_eq_true (by omega)]; rfl
  rw [if_neg (by simp; omega), if_neg (by simp; omega), decide_eq_false (by omega)]
  simp only [bs, Bool.false_eq_true, if_false]
  rw [vCmp_eq v w iv iw tv tw, rCmp_eq v w iv iw tv tw, enc_eq v iv tv, rEnc_eq v iv tv, dec_eq b (by omega), rDec_eq b (by omega)]
  have hlen : (if okV v = true then (encV v, (0 : Int)) else (([] : List UInt8), (8 : Int))).1.length ≤ 9223372036854775807 := by
    cases ov : okV v
    · simp
    · have := encV_len v iv ov; simp; omega
  simp only [bs, beq_self_eq_true, if_true, sameB_eq _ _ hlen, decide_true]
end Go.Proofs.YtklfgpdfongaeaaDoor
