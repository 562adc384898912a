/- Values: bytes that are read; the law ValueBack. Plain. -/
import Derived.Test.YtklfgpdfongaeaaDoorQRead
namespace Go.Proofs.YtklfgpdfongaeaaDoor
open Go
set_option linter.unusedSimpArgs false
set_option linter.unusedVariables false
theorem inI0'' : inI 0 := ⟨by decide, by decide⟩
theorem shrB (b : UInt64) (k : Nat) (hk : k ≤ 63) : (shr64 b k).toUInt8.toNat = b.toNat / 2 ^ k % 256 := by
  rw [UInt64.toNat_toUInt8, shr64_toNat, Nat.min_eq_left (by omega)]
theorem be8_val (b : UInt64) : beVal (be8 b) = b.toNat := by
  have h := UInt64.toNat_lt b
  unfold be8
  simp only [beVal, List.foldl_cons, List.foldl_nil, shrB b 56 (by omega), shrB b 48 (by omega), shrB b 40 (by omega), shrB b 32 (by omega), shrB b 24 (by omega), shrB b 16 (by omega), shrB b 8 (by omega), shrB b 0 (by omega)]
  omega
theorem be8_of (l : List UInt8) (h : l.length = 8) : be8 (UInt64.ofNat (beVal l)) = l := by
  match l, h with
  | [x0, x1, x2, x3, x4, x5, x6, x7], _ =>
    have h0 := x0.toNat_lt; have h1 := x1.toNat_lt; have h2 := x2.toNat_lt; have h3 := x3.toNat_lt; have h4 := x4.toNat_lt; have h5 := x5.toNat_lt; have h6 := x6.toNat_lt; have h7 := x7.toNat_lt
    have hv : (UInt64.ofNat (beVal [x0, x1, x2, x3, x4, x5, x6, x7])).toNat = ((((((x0.toNat * 256 + x1.toNat) * 256 + x2.toNat) * 256 + x3.toNat) * 256 + x4.toNat) * 256 + x5.toNat) * 256 + x6.toNat) * 256 + x7.toNat := by
      simp only [beVal, List.foldl_cons, List.foldl_nil, UInt64.toNat_ofNat']; omega
    generalize UInt64.ofNat (beVal [x0, x1, x2, x3, x4, x5, x6, x7]) = b at hv
    unfold be8
    have e : ∀ (k : Nat) (x : UInt8), k ≤ 63 → b.toNat / 2 ^ k % 256 = x.toNat → (shr64 b k).toUInt8 = x := fun k x hk he => UInt8.toNat_inj.1 (by rw [shrB b k hk, he])
    rw [e 56 x0 (by omega) (by omega), e 48 x1 (by omega) (by omega), e 40 x2 (by omega) (by omega), e 32 x3 (by omega) (by omega), e 24 x4 (by omega) (by omega), e 16 x5 (by omega) (by omega), e 8 x6 (by omega) (by omega), e 0 x7 (by omega) (by omega)]
theorem be8_len (b : UInt64) : (be8 b).length = 8 := rfl
def badV : api_Value × Nat × Nat := (⟨0, 0, 0, []⟩, 0, 12)
/-- what is read, before it is checked -/
def rawV (k : UInt8) (r : List UInt8) : api_Value × Nat × Nat :=
  if k = 1 then (⟨1, (readS r).1, 0, []⟩, (readS r).2.1, (readS r).2.2)
  else if k = 2 then (if r.length < 8 then badV else (⟨2, 0, UInt64.ofNat (beVal (r.take 8)), []⟩, 8, 0))
  else if k = 3 then (⟨3, 0, 0, (partL r 30 1).1⟩, (partL r 30 1).2.1, (partL r 30 1).2.2)
  else (⟨k, 0, 0, []⟩, 0, 0)
def decV (b : List UInt8) : api_Value × Nat × Nat :=
  match b with
  | [] => badV
  | k :: r => if (rawV k r).2.2 = 0 ∧ okV (rawV k r).1 = true then ((rawV k r).1, (rawV k r).2.1 + 1, 0) else badV
theorem dec_L1 (k : UInt8) (l : List UInt8) (h8 : l.length ≤ 8) : iter (value_Decode_L1 l) (⟨k, 0, 0, []⟩, 0) = some ⟨k, 0, UInt64.ofNat (beVal l), []⟩ := by
  obtain ⟨b, h1, h2⟩ := iter_up (F := value_Decode_L1 l) l.length (fun i s => ∃ u : UInt64, s.1 = ⟨k, 0, u, []⟩ ∧ u.toNat = beVal (l.take i) ∧ s.2 = (i : Int)) (fun b => b = (⟨k, 0, UInt64.ofNat (beVal l), []⟩ : api_Value))
    (fun i s hi hs => by
      obtain ⟨s1, s2⟩ := s
      obtain ⟨u, e0, e1, e2⟩ := hs
      simp only at e0 e1 e2
      subst e2 e0
      have hb := beVal_take_lt hi h8
      have ht := beVal_take hi
      rw [getD_get hi] at hb ht
      refine ⟨_, by unfold value_Decode_L1; rw [if_pos (by simp <;> omega)]; simp only [idx_nat hi, bs]; rfl, shl64 u 8 ||| l[i].toUInt64, rfl, ?_, ?_⟩
      · rw [or8 u l[i] (by omega), ht, e1]
      · exact w64_nat (by omega))
    (fun s hs => by
      obtain ⟨s1, s2⟩ := s
      obtain ⟨u, e0, e1, e2⟩ := hs
      simp only at e0 e1 e2
      subst e2 e0
      refine ⟨_, by unfold value_Decode_L1; rw [if_neg (by simp)], ?_⟩
      rw [List.take_length] at e1
      rw [u64_of e1]) (⟨k, 0, 0, []⟩, 0) 0 (by omega) ⟨0, rfl, rfl, rfl⟩
  rw [h1, h2]
theorem readS_small (r : List UInt8) : (readS r).2.1 ≤ 9 ∧ ((readS r).2.2 = 0 ∨ (readS r).2.2 = 12) ∧ inI (readS r).1 := by
  have h := readN_lt r
  by_cases h1 : (readN r).2.2 = 0
  · rw [readS_ok h1]; have := unzig_range h.1; exact ⟨h.2.1, .inl rfl, this⟩
  · rw [readS_no h1]; exact ⟨by simp, h.2.2, inI0''⟩
theorem partL_small (r : List UInt8) : (partL r 30 1).2.1 ≤ 39 ∧ ((partL r 30 1).2.2 = 0 ∨ (partL r 30 1).2.2 = 12) ∧ (partL r 30 1).1.length ≤ r.length := by
  have h := readN_lt r
  refine ⟨?_, ?_, partL_len r 30 1⟩ <;> unfold partL
  · split
    · simp
    · split
      · simp
      · simp only; omega
  · split
    · rename_i e; exact absurd e (by decide)
    · split <;> simp
theorem fin_eq (v : api_Value) (u e : Nat) (hv : v.Text.length ≤ 9223372036854775807) (hu : u ≤ 100) :
    ((if ((e : Int) != 0) = true then some true else value_Check v >>= fun r29 => some (r29 != 0)) >>= fun s27 => if s27 then some ((⟨0, 0, 0, []⟩ : api_Value), (0 : Int), (12 : Int)) else some (w64 ((u : Int) + 1)) >>= fun y32 => some (v, y32, 0)) =
    some (if e = 0 ∧ okV v = true then (v, ((u + 1 : Nat) : Int), 0) else (⟨0, 0, 0, []⟩, 0, 12)) := by
  rw [vCheck_eq v hv]
  by_cases he : e = 0
  · rw [if_neg (by simp [he])]
    cases ok : okV v
    · have hn : ¬ (e = 0 ∧ false = true) := by simp
      rw [if_neg hn]; rfl
    · rw [if_pos (⟨he, rfl⟩ : e = 0 ∧ true = true)]
      simp only [bs, if_true, bne_self_eq_false, Bool.false_eq_true, if_false]
      rw [w64_nat (by omega)]
  · rw [if_pos (by simp; omega), if_neg (fun h => he h.1)]; rfl
theorem dec_eq (b : List UInt8) (hb : b.length ≤ 10000) : value_Decode b = some ((decV b).1, ((decV b).2.1 : Int), ((decV b).2.2 : Int)) := by
  unfold value_Decode decV
  match b, hb with
  | [], _ => rfl
  | k :: r, hb =>
    simp only [List.length_cons] at hb
    rw [if_neg (by simp; omega)]
    have i0 : idx (k :: r) 0 = some k := idx_nat (l := k :: r) (i := 0) (by simp)
    have hc : cut (k :: r) 1 ((k :: r).length : Int) = some r := by
      have := cut_eq (b := k :: r) (i := 1) (j := (k :: r).length) (by simp) (by simp)
      rw [show ((1 : Nat) : Int) = 1 from rfl] at this
      rw [this]; simp
    rw [i0]
    simp only [bs]
    rw [hc]
    simp only [bs]
    have fin : ∀ (v : api_Value) (u e : Nat), v.Text.length ≤ 9223372036854775807 → u ≤ 100 → rawV k r = (v, u, e) →
        ((if ((e : Int) != 0) = true then some true else value_Check v >>= fun r29 => some (r29 != 0)) >>= fun s27 => if s27 then some ((⟨0, 0, 0, []⟩ : api_Value), (0 : Int), (12 : Int)) else some (w64 ((u : Int) + 1)) >>= fun y32 => some (v, y32, 0)) =
        some ((if (rawV k r).2.2 = 0 ∧ okV (rawV k r).1 = true then ((rawV k r).1, (rawV k r).2.1 + 1, 0) else badV).1, (((if (rawV k r).2.2 = 0 ∧ okV (rawV k r).1 = true then ((rawV k r).1, (rawV k r).2.1 + 1, 0) else badV).2.1 : Nat) : Int), (((if (rawV k r).2.2 = 0 ∧ okV (rawV k r).1 = true then ((rawV k r).1, (rawV k r).2.1 + 1, 0) else badV).2.2 : Nat) : Int)) := by
      intro v u e hv hu hr
      rw [fin_eq v u e hv hu, hr]
      by_cases h : e = 0 ∧ okV v = true
      · rw [if_pos h, if_pos h]; rfl
      · rw [if_neg h, if_neg h]; rfl
    by_cases k1 : k = 1
    · have hr := readS_small r
      subst k1
      rw [if_pos (by decide), rdSgn_eq r (by omega)]
      simp only [bs, or_r]
      exact fin _ _ _ (by simp) (by omega) (by unfold rawV; rw [if_pos rfl])
    have c1 : (k == 1) = false := by simpa using k1
    rw [c1]
    simp only [Bool.false_eq_true, if_false]
    by_cases k2 : k = 2
    · subst k2
      rw [if_pos (by decide)]
      by_cases h8 : r.length < 8
      · rw [if_pos (by simp; omega)]
        have : rawV 2 r = badV := by unfold rawV; rw [if_neg (by decide), if_pos rfl, if_pos h8]
        rw [this]; rfl
      · rw [if_neg (by simp; omega)]
        have hc8 : cut r 0 8 = some (r.take 8) := by
          have := cut_eq (b := r) (i := 0) (j := 8) (by omega) (by omega)
          rw [show ((0 : Nat) : Int) = 0 from rfl, show ((8 : Nat) : Int) = 8 from rfl] at this
          rw [this]; simp
        rw [hc8]
        simp only [bs]
        rw [dec_L1 2 (r.take 8) (by rw [List.length_take]; omega)]
        simp only [bs, or_r]
        exact fin ⟨2, 0, UInt64.ofNat (beVal (r.take 8)), []⟩ 8 0 (by simp) (by omega) (by unfold rawV; rw [if_neg (by decide), if_pos rfl, if_neg h8])
    have c2 : (k == 2) = false := by simpa using k2
    rw [c2]
    simp only [Bool.false_eq_true, if_false]
    by_cases k3 : k = 3
    · have hr := partL_small r
      subst k3
      rw [if_pos (by decide), rdBytes_eq r (by omega) 30 (by decide)]
      simp only [bs, or_r]
      exact fin _ _ _ (by show (partL r 30 1).1.length ≤ _; omega) (by omega) (by unfold rawV; rw [if_neg (by decide), if_neg (by decide), if_pos rfl])
    have c3 : (k == 3) = false := by simpa using k3
    rw [c3]
    simp only [Bool.false_eq_true, if_false, or_r]
    exact fin ⟨k, 0, 0, []⟩ 0 0 (by simp) (by omega) (by unfold rawV; rw [if_neg k1, if_neg k2, if_neg k3])
/-! ### there and back -/
theorem enc_dec (v : api_Value) (hI : inI v.Num) (h : okV v = true) (b : List UInt8) : decV (encV v ++ b) = (v, (encV v).length, 0) := by
  unfold encV
  have key : ∀ (k : UInt8) (x : List UInt8) (w : api_Value), rawV k (x ++ b) = (w, x.length, 0) → okV w = true → decV ((k :: x) ++ b) = (w, (k :: x).length, 0) := by
    intro k x w h1 h2
    show (if (rawV k (x ++ b)).2.2 = 0 ∧ okV (rawV k (x ++ b)).1 = true then ((rawV k (x ++ b)).1, (rawV k (x ++ b)).2.1 + 1, 0) else badV) = _
    rw [h1, if_pos ⟨rfl, h2⟩]; rfl
  have rd : ∀ (n : Nat) (c : List UInt8), n < 18446744073709551616 → readN (numBytes n ++ c) = (n, (numBytes n).length, 0) := fun n c hn => readN_some ((readNum_some_iff _ _ _).2 ⟨hn, rfl, List.take_left⟩)
  rcases okV_kind h with k | k | k
  · rw [if_pos k, k]
    refine key 1 _ v ?_ h
    have hz := zig_in hI
    unfold rawV
    have hr := rd (zig v.Num) b hz
    rw [if_pos rfl, readS_ok (by rw [hr]), hr, unzig_zig]
    obtain ⟨e1, e2⟩ := okV1 h k
    congr 1
    exact val_ext k.symm rfl e1.symm e2.symm
  · rw [if_neg (by rw [k]; decide), if_pos k, k]
    refine key 2 _ v ?_ h
    unfold rawV
    rw [if_neg (by decide), if_pos rfl, if_neg (by rw [List.length_append, be8_len]; omega)]
    have e : (be8 v.Bits ++ b).take 8 = be8 v.Bits := List.take_left' (be8_len _)
    rw [e, be8_val]
    obtain ⟨e1, e2, -⟩ := okV2 h k
    rw [show UInt64.ofNat v.Bits.toNat = v.Bits by simp]
    congr 1
    exact val_ext k.symm e1.symm rfl e2.symm
  · rw [if_neg (by rw [k]; decide), if_neg (by rw [k]; decide), k]
    refine key 3 _ v ?_ h
    obtain ⟨e1, e2, e3, -⟩ := okV3 h k
    unfold rawV
    have hr := rd v.Text.length (v.Text ++ b) (by omega)
    rw [if_neg (by decide), if_neg (by decide), if_pos rfl, List.append_assoc]
    rw [partL_good (by decide) (by rw [hr]; simp only [List.length_append, Nat.div_one]; omega), hr]
    simp only [List.drop_left, Nat.one_mul, List.take_left, List.length_append]
    congr 1
    exact val_ext k.symm e1.symm e2.symm rfl
theorem encV_len (v : api_Value) (hI : inI v.Num) (h : okV v = true) : (encV v).length ≤ 60 := by
  unfold encV
  rcases okV_kind h with k | k | k
  · have := numBytes_len (zig v.Num) (zig_in hI)
    rw [if_pos k]; simp only [List.length_cons]; omega
  · rw [if_neg (by rw [k]; decide), if_pos k]; simp only [List.length_cons, be8_len]; omega
  · have h3 := (okV3 h k).2.2.1
    have := numBytes_len v.Text.length (by omega)
    rw [if_neg (by rw [k]; decide), if_neg (by rw [k]; decide)]; simp only [List.length_cons, List.length_append]; omega
theorem encV_inj {v w : api_Value} (iv : inI v.Num) (iw : inI w.Num) (hv : okV v = true) (hw : okV w = true) (e : encV v = encV w) : v = w := by
  have h1 := enc_dec v iv hv []
  have h2 := enc_dec w iw hw []
  rw [e, h2] at h1
  exact (congrArg Prod.fst h1).symm
/-- what is read is valid, and has just the bytes that were read -/
theorem dec_enc (b : List UInt8) (h : (decV b).2.2 = 0) : inI (decV b).1.Num ∧ okV (decV b).1 = true ∧ 1 ≤ (decV b).2.1 ∧ (decV b).2.1 ≤ b.length ∧ encV (decV b).1 = b.take (decV b).2.1 ∧ (decV b).1.Text.length ≤ 30 := by
  match b, h with
  | [], h => simp [decV, badV] at h
  | k :: r, h =>
    unfold decV at h ⊢
    by_cases hc : (rawV k r).2.2 = 0 ∧ okV (rawV k r).1 = true
    · simp only [if_pos hc]
      obtain ⟨c1, c2⟩ := hc
      have ht : (rawV k r).1.Text.length ≤ 30 := by
        rcases okV_kind c2 with q | q | q
        · rw [(okV1 c2 q).2]; simp
        · rw [(okV2 c2 q).2.1]; simp
        · exact (okV3 c2 q).2.2.1
      suffices hs : inI (rawV k r).1.Num ∧ (rawV k r).2.1 ≤ r.length ∧ encV (rawV k r).1 = k :: r.take (rawV k r).2.1 by
        refine ⟨hs.1, c2, by omega, by simp only [List.length_cons]; omega, ?_, ht⟩
        rw [hs.2.2, List.take_succ_cons]
      by_cases k1 : k = 1
      · subst k1
        have hw : rawV 1 r = (⟨1, (readS r).1, 0, []⟩, (readS r).2.1, (readS r).2.2) := by unfold rawV; rw [if_pos rfl]
        rw [hw] at c1 ⊢
        have hr := readS_small r
        have e0 : (readN r).2.2 = 0 := by
          by_cases h1 : (readN r).2.2 = 0
          · exact h1
          · rw [readS_no h1] at c1; exact c1
        rw [readS_ok e0] at hr ⊢
        rcases readN_cases r with ⟨h1, h2⟩ | ⟨n, u, h1, h2⟩
        · rw [h2] at e0; cases e0
        · obtain ⟨a1, a2, a3⟩ := (readNum_some_iff r n u).1 h1
          have := readNum_lt h1
          rw [h2]
          refine ⟨unzig_range a1, this.2.2.2, ?_⟩
          unfold encV
          rw [if_pos rfl]
          simp only [zig_unzig]
          rw [a3]
      by_cases k2 : k = 2
      · subst k2
        have hw : rawV 2 r = if r.length < 8 then badV else (⟨2, 0, UInt64.ofNat (beVal (r.take 8)), []⟩, 8, 0) := by unfold rawV; rw [if_neg (by decide), if_pos rfl]
        rw [hw] at c1 ⊢
        by_cases h8 : r.length < 8
        · rw [if_pos h8] at c1; cases c1
        · rw [if_neg h8]
          refine ⟨inI0'', by show 8 ≤ r.length; omega, ?_⟩
          show (2 : UInt8) :: be8 (UInt64.ofNat (beVal (r.take 8))) = 2 :: r.take 8
          rw [be8_of _ (by rw [List.length_take]; omega)]
      by_cases k3 : k = 3
      · subst k3
        have hw : rawV 3 r = (⟨3, 0, 0, (partL r 30 1).1⟩, (partL r 30 1).2.1, (partL r 30 1).2.2) := by unfold rawV; rw [if_neg (by decide), if_neg (by decide), if_pos rfl]
        rw [hw] at c1 ⊢
        by_cases hb : (readN r).2.2 ≠ 0 ∨ (30 : Int) < ((readN r).1 : Int) ∨ (r.length - (readN r).2.1) / 1 < (readN r).1
        · rw [partL_bad (by decide) hb] at c1; cases c1
        · have hf := part_fits (b := r) (k := 1) (by omega)
          rw [partL_good (by decide) hb]
          have e0 : (readN r).2.2 = 0 := by omega
          rcases readN_cases r with ⟨h1, h2⟩ | ⟨n, u, h1, h2⟩
          · rw [h2] at e0; cases e0
          · obtain ⟨a1, a2, a3⟩ := (readNum_some_iff r n u).1 h1
            have := readNum_lt h1
            rw [h2] at hf ⊢
            simp only [Nat.one_mul] at hf ⊢
            refine ⟨inI0'', by omega, ?_⟩
            show (3 : UInt8) :: (numBytes ((r.drop u).take n).length ++ (r.drop u).take n) = _
            have hl : ((r.drop u).take n).length = n := by rw [List.length_take, List.length_drop]; omega
            simp only [hl]
            rw [← a3, List.take_add]
      · exfalso
        have hw : rawV k r = (⟨k, 0, 0, []⟩, 0, 0) := by unfold rawV; rw [if_neg k1, if_neg k2, if_neg k3]
        rw [hw] at c2
        rcases okV_kind c2 with q | q | q
        · exact k1 q
        · exact k2 q
        · exact k3 q
    · simp only [if_neg hc, badV] at h
      cases h
theorem decV_err (b : List UInt8) : (decV b).2.2 = 0 ∨ decV b = badV := by
  match b with
  | [] => exact .inr rfl
  | k :: r =>
    unfold decV
    by_cases hc : (rawV k r).2.2 = 0 ∧ okV (rawV k r).1 = true
    · left; simp only [if_pos hc]
    · right; simp only [if_neg hc]
theorem back_law (v w : api_Value) (b : List UInt8) (wv : wf_api_Value v) (ww : wf_api_Value w) (_ : (∀ x ∈ b, (fun _ => True) x) ∧ b.length ≤ 9223372036854775807) : braidlaw05_ValueBack v w b = some true := by
  obtain ⟨-, iv, -, tv, -⟩ := wv
  obtain ⟨-, iw, -, tw, -⟩ := ww
  unfold braidlaw05_ValueBack
  rw [alive_eq, fit_eq v tv, fit_eq w tw]
  by_cases hb : 100 < b.length
  · rw [if_pos (by simp; omega)]; rfl
  rw [if_neg (by simp; omega)]
  simp only [bs]
  have first : ∀ K : Unit → Option Bool, orRet ((if okV v = true then some (okV w) else some false) >>= fun s7 =>
    if s7 then
      value_Encode v >>= fun r14 => value_Encode w >>= fun r16 => app 1 ([] : List UInt8) r14.1 >>= fun x19 => app 1 x19 b >>= fun x22 => value_Decode x22 >>= fun r25 =>
      if r14.2 != 0 then some (.inl false) else if r16.2 != 0 then some (.inl false) else if r25.2.2 != 0 then some (.inl false) else if !decide (r25.1 = v) then some (.inl false) else if r25.2.1 != (r14.1.length : Int) then some (.inl false)
      else braidref01_SameBytes r14.1 r16.1 >>= fun r33 => if r33 != (decide (v = w)) then some (.inl false) else some (.inr ())
    else some (.inr ())) K = K () := by
    intro K
    cases ov : okV v
    · rfl
    cases ow : okV w
    · rfl
    simp only [bs, if_true]
    rw [enc_eq v iv tv, enc_eq w iw tw, ov, ow]
    have lv := encV_len v iv ov
    simp only [bs, if_true]
    rw [app_eq (by simp; omega)]
    simp only [bs, List.nil_append]
    rw [app_eq (by simp; omega)]
    simp only [bs]
    rw [dec_eq _ (by rw [List.length_append]; omega), enc_dec v iv ov b, sameB_eq _ _ (by omega)]
    simp only [bs, bne_self_eq_false, Bool.false_eq_true, if_false, decide_true, Bool.not_true]
    have e : decide (encV v = encV w) = decide (v = w) := by
      rw [decide_eq_decide]; exact ⟨encV_inj iv iw ov ow, fun e => by rw [e]⟩
    simp [e, or_r]
  rw [first]
  rw [dec_eq b (by omega)]
  simp only [bs]
  rcases decV_err b with h | h
  · obtain ⟨i1, i2, i3, i4, i5, i6⟩ := dec_enc b h
    rw [h, if_neg (by simp), enc_eq _ i1 (by omega), i2, fit_eq _ (by omega), i2]
    simp only [bs, if_true]
    have hc : cut b 0 ((decV b).2.1 : Int) = some (b.take (decV b).2.1) := by
      have := cut_eq (b := b) (i := 0) (j := (decV b).2.1) (by omega) i4
      rw [show ((0 : Nat) : Int) = 0 from rfl] at this
      rw [this]; simp
    have l2 := encV_len _ i1 i2
    rw [if_pos (by decide), if_pos (by simp; omega), if_pos (by simp; omega), hc]
    simp only [bs]
    rw [sameB_eq _ _ (by omega), decide_eq_true i5]; rfl
  · rw [h]; rfl
end Go.Proofs.YtklfgpdfongaeaaDoor
