import Derived.Test.YtjnheeekdadcpaaGreatDoorFe
namespace Go.Proofs.YtjnheeekdadcpaaGreatDoor
open Go
set_option linter.unusedSimpArgs false
set_option linter.unusedVariables false
def blk (h : Vector UInt32 8) (b : List UInt8) : Vector UInt32 8 := if h64 : 64 ≤ b.length then blk (gr h (b.take 64)) (b.drop 64) else h
termination_by b.length
decreasing_by simp; omega
theorem blk_lt {h : Vector UInt32 8} {b : List UInt8} (hb : b.length < 64) : blk h b = h := by rw [blk, dif_neg (by omega)]
theorem blk_ge {h : Vector UInt32 8} {b : List UInt8} (hb : 64 ≤ b.length) : blk h b = blk (gr h (b.take 64)) (b.drop 64) := by rw [blk, dif_pos hb]
def lft (b : List UInt8) : List UInt8 := b.drop (b.length / 64 * 64)
theorem lft_lt {b : List UInt8} (hb : b.length < 64) : lft b = b := by unfold lft; rw [Nat.div_eq_of_lt hb]; simp
theorem lft_ge {b : List UInt8} (hb : 64 ≤ b.length) : lft b = lft (b.drop 64) := by
  unfold lft
  rw [List.drop_drop, List.length_drop]
  congr 1
  omega
theorem lft_len (b : List UInt8) : (lft b).length < 64 := by unfold lft; simp; omega
theorem blk_app (h : Vector UInt32 8) : ∀ (n : Nat) (a c : List UInt8), a.length = n → blk h (a ++ c) = blk (blk h a) (lft a ++ c) ∧ lft (a ++ c) = lft (lft a ++ c) := by
  intro n
  induction n using Nat.strongRecOn generalizing h with
  | _ n ih =>
    intro a c ha
    by_cases h64 : 64 ≤ a.length
    · have e1 : (a ++ c).take 64 = a.take 64 := by rw [List.take_append_of_le_length h64]
      have e2 : (a ++ c).drop 64 = a.drop 64 ++ c := by rw [List.drop_append_of_le_length h64]
      have hl : 64 ≤ (a ++ c).length := by simp; omega
      obtain ⟨i1, i2⟩ := ih (a.drop 64).length (by simp; omega) (gr h (a.take 64)) (a.drop 64) c rfl
      rw [blk_ge hl, e1, e2, blk_ge h64, lft_ge h64, lft_ge hl, e2]
      exact ⟨i1, i2⟩
    · rw [blk_lt (b := a) (by omega), lft_lt (b := a) (by omega)]
      exact ⟨rfl, rfl⟩
theorem feed_loop : ∀ (n : Nat) (m : api_Mill) (r : List UInt8), r.length = n → iter digest_feed_L0 (m, r) = some ({ m with Words := blk m.Words r }, lft r) := by
  intro n
  induction n using Nat.strongRecOn with
  | _ n ih =>
    intro m r hr
    by_cases h64 : 64 ≤ r.length
    · have hs : digest_feed_L0 (m, r) = some (.inr ({ m with Words := gr m.Words (r.take 64) }, r.drop 64)) := by
        unfold digest_feed_L0
        rw [if_pos (by simp; omega)]
        simp only []
        rw [prog_gr _ _ h64, show (64 : Int) = ((64 : Nat) : Int) from rfl, cut_eq h64 (Nat.le_refl _)]
        simp only [bS]
        rw [List.take_of_length_le (l := r.drop 64) (by simp)]
      rw [iter_r hs, ih (r.drop 64).length (by simp; omega) _ _ rfl, blk_ge h64, lft_ge h64]
    · refine (iter_l (b := (m, r)) ?_).trans ?_
      · unfold digest_feed_L0
        rw [if_neg (by simp; omega)]
      · rw [blk_lt (by omega), lft_lt (by omega)]
theorem concat2 (a b : List UInt8) (h : a.length + b.length ≤ 1000000) : slices_Concat_byte_byte [a, b] = some (a ++ b) := by
  have l1 : iter (slices_Concat_byte_byte_L0 [a, b]) (0, 0) = some ((a.length + b.length : Nat) : Int) := by
    have s1 : slices_Concat_byte_byte_L0 [a, b] (0, 0) = some (.inr ((a.length : Int), 1)) := by
      unfold slices_Concat_byte_byte_L0
      rw [if_pos (by simp)]
      simp only []
      rw [show idx [a, b] 0 = some a from rfl]
      simp only [bS]
      rw [w64_eq (x := (0 : Int) + (a.length : Int)) (by omega) (by omega), w64_eq (x := (0 : Int) + 1) (by omega) (by omega)]
      rw [if_neg (by simp)]
      simp
    have s2 : slices_Concat_byte_byte_L0 [a, b] ((a.length : Int), 1) = some (.inr (((a.length + b.length : Nat) : Int), 2)) := by
      unfold slices_Concat_byte_byte_L0
      rw [if_pos (by simp)]
      simp only []
      rw [show idx [a, b] 1 = some b from rfl]
      simp only [bS]
      rw [w64_eq (x := (a.length : Int) + (b.length : Int)) (by omega) (by omega), w64_eq (x := (1 : Int) + 1) (by omega) (by omega)]
      rw [if_neg (by simp; omega)]
      simp
    have s3 : slices_Concat_byte_byte_L0 [a, b] (((a.length + b.length : Nat) : Int), 2) = some (.inl ((a.length + b.length : Nat) : Int)) := by
      unfold slices_Concat_byte_byte_L0
      rw [if_neg (by simp)]
    rw [iter_r s1, iter_r s2, iter_l s3]
  have gw : slices_Grow_byte_byte ((a.length + b.length : Nat) : Int) = some [] := by
    unfold slices_Grow_byte_byte
    rw [if_neg (by simp; omega)]
    rw [show ((([] : List UInt8).length : Nat) : Int) = 0 from rfl, show w64 ((0 : Int) - 0) = 0 by decide, Int.sub_zero, w64_eq (by omega) (by omega)]
    simp only [bS]
    split
    · rw [mkn_eq (by omega) (by omega)]
      simp only [bS]
      rw [show (0 : Int) = ((0 : Nat) : Int) from rfl, cut_eq (Nat.le_refl _) (Nat.zero_le _)]
      simp
    · rfl
  have l2 : iter (slices_Concat_byte_byte_L2 [a, b]) ([], 0) = some (a ++ b) := by
    have s1 : slices_Concat_byte_byte_L2 [a, b] ([], 0) = some (.inr (a, 1)) := by
      unfold slices_Concat_byte_byte_L2
      rw [if_pos (by simp)]
      simp only []
      rw [show idx [a, b] 0 = some a from rfl, w64_eq (x := (0 : Int) + 1) (by omega) (by omega)]
      simp only [bS]
      rw [app_eq (by simp; omega)]
      simp
    have s2 : slices_Concat_byte_byte_L2 [a, b] (a, 1) = some (.inr (a ++ b, 2)) := by
      unfold slices_Concat_byte_byte_L2
      rw [if_pos (by simp)]
      simp only []
      rw [show idx [a, b] 1 = some b from rfl, w64_eq (x := (1 : Int) + 1) (by omega) (by omega)]
      simp only [bS]
      rw [app_eq (by simp; omega)]
      simp
    have s3 : slices_Concat_byte_byte_L2 [a, b] (a ++ b, 2) = some (.inl (a ++ b)) := by
      unfold slices_Concat_byte_byte_L2
      rw [if_neg (by simp)]
    rw [iter_r s1, iter_r s2, iter_l s3]
  unfold slices_Concat_byte_byte
  rw [l1]
  simp only [bS]
  rw [gw]
  simp only [bS]
  rw [l2]
  simp only [bS]
theorem feed_eq (m : api_Mill) (b : List UInt8) (h : m.Rest.length + b.length ≤ 1000000) : digest_feed m b = some ⟨blk m.Words (m.Rest ++ b), lft (m.Rest ++ b), w64 (m.N + (b.length : Int))⟩ := by
  unfold digest_feed
  rw [concat2 _ _ h]
  simp only [bS]
  rw [feed_loop _ _ _ rfl]
  simp only [bS]
  unfold slices_Clone_byte_byte
  have := lft_len (m.Rest ++ b)
  rw [app_eq (by simp; omega)]
  simp only [bS, List.nil_append]
def H0 : Vector UInt32 8 := #v[1779033703, 3144134277, 1013904242, 2773480762, 1359893119, 2600822924, 528734635, 1541459225]
def mill (a : List UInt8) : api_Mill := ⟨blk H0 a, lft a, (a.length : Int)⟩
theorem start_eq : digest_Start = some (mill []) := by
  unfold digest_Start mill
  rw [blk_lt (by simp), lft_lt (by simp)]
  rfl
theorem feed_mill (a b : List UInt8) (h : a.length + b.length ≤ 500000) : digest_feed (mill a) b = some (mill (a ++ b)) := by
  have hl := lft_len a
  rw [feed_eq (mill a) b (by show (lft a).length + b.length ≤ 1000000; omega)]
  obtain ⟨h1, h2⟩ := blk_app H0 _ a b rfl
  unfold mill
  rw [h1, h2, w64_eq (by simp; omega) (by simp; omega)]
  simp
theorem ref_blocks (b : List UInt8) (hb : b.length ≤ 1000000) : ∀ (n : Nat) (h : Vector UInt32 8) (i : Nat), (b.drop i).length = n → i ≤ b.length → iter (braidref01_blocks_L0 b) (h, (i : Int)) = some (blk h (b.drop i)) := by
  intro n
  induction n using Nat.strongRecOn with
  | _ n ih =>
    intro h i hn hi
    have hw : w64 ((i : Int) + 64) = ((i + 64 : Nat) : Int) := by rw [w64_eq (by omega) (by omega)]; omega
    simp only [List.length_drop] at hn
    by_cases h64 : i + 64 ≤ b.length
    · have hs : braidref01_blocks_L0 b (h, (i : Int)) = some (.inr (gr h ((b.drop i).take 64), ((i + 64 : Nat) : Int))) := by
        unfold braidref01_blocks_L0
        simp only [hw]
        rw [if_pos (by simp; omega), cut_eq (by omega) h64]
        simp only [bS]
        rw [show i + 64 - i = 64 by omega, ref_gr _ _ (by simp; omega)]
        simp only [bS]
      rw [iter_r hs, ih (b.drop (i + 64)).length (by simp; omega) _ _ rfl h64, blk_ge (b := b.drop i) (by simp; omega), List.drop_drop]
    · refine (iter_l (b := h) ?_).trans ?_
      · unfold braidref01_blocks_L0
        simp only [hw]
        rw [if_neg (by simp; omega)]
      · rw [blk_lt (by simp; omega)]
theorem blocks_eq (h : Vector UInt32 8) (b : List UInt8) (hb : b.length ≤ 1000000) : braidref01_blocks h b = some (blk h b) := by
  unfold braidref01_blocks
  have := ref_blocks b hb _ h 0 rfl (by omega)
  rw [show (0 : Int) = ((0 : Nat) : Int) from rfl, this]
  simp only [bS, List.drop_zero]
def zrs (n : Nat) : Nat := (119 - n % 64) % 64
def bytes8 (n : Nat) : List UInt8 := (List.range 8).map fun i => (shr64 (UInt64.ofNat n * 8) (56 - 8 * i)).toUInt8
def tl (n : Nat) : List UInt8 := ([128] ++ List.replicate (zrs n) 0) ++ bytes8 n
theorem ofInt_nat (n : Nat) : UInt64.ofInt (n : Int) = UInt64.ofNat n := by
  apply UInt64.toNat_inj.1
  unfold UInt64.ofInt
  simp only [UInt64.toNat_ofNat']
  omega
theorem prog_tail (n : Nat) (x : List UInt8) (hx : x.length ≤ 100) : iter (digest_end_L0 (UInt64.ofNat n * 8)) (x, 56) = some (x ++ bytes8 n) := by
  rw [show (x, (56 : Int)) = (x ++ (bytes8 n).take 0, 56 - 8 * ((0 : Nat) : Int)) by simp]
  refine iter_run (F := digest_end_L0 (UInt64.ofNat n * 8)) (b := x ++ bytes8 n) 8 (fun i => (x ++ (bytes8 n).take i, 56 - 8 * (i : Int))) (fun i hi => ?_) ?_
  · have hl : (bytes8 n).length = 8 := by simp [bytes8]
    unfold digest_end_L0
    rw [if_pos (by simp; omega)]
    simp only []
    rw [chk_true (by omega), w64_eq (by omega) (by omega)]
    simp only [bS]
    rw [app_eq (by simp; omega)]
    simp only [bS]
    rw [List.take_add_one, List.getElem?_eq_getElem (by omega)]
    simp only [Option.toList_some, List.append_assoc]
    rw [show (56 - 8 * (i : Int)).toNat = 56 - 8 * i by omega, show (56 - 8 * (i : Int) - 8) = 56 - 8 * ((i + 1 : Nat) : Int) by omega]
    simp [bytes8]
  · have hl : (bytes8 n).length = 8 := by simp [bytes8]
    unfold digest_end_L0
    rw [if_neg (by simp), List.take_of_length_le (by omega)]
theorem ref_tail2 (n : Nat) (x : List UInt8) (hx : x.length ≤ 100) : iter (braidref01_tail_L2 (n : Int)) (x, 7) = some (x ++ bytes8 n) := by
  rw [show (x, (7 : Int)) = (x ++ (bytes8 n).take 0, 7 - ((0 : Nat) : Int)) by simp]
  refine iter_run (F := braidref01_tail_L2 (n : Int)) (b := x ++ bytes8 n) 8 (fun i => (x ++ (bytes8 n).take i, 7 - (i : Int))) (fun i hi => ?_) ?_
  · have hl : (bytes8 n).length = 8 := by simp [bytes8]
    unfold braidref01_tail_L2
    rw [if_pos (by simp; omega)]
    simp only []
    rw [w64_eq (x := 8 * (7 - (i : Int))) (by omega) (by omega), chk_true (by omega), w64_eq (by omega) (by omega)]
    simp only [bS]
    rw [app_eq (by simp; omega)]
    simp only [bS]
    rw [List.take_add_one, List.getElem?_eq_getElem (by omega)]
    simp only [Option.toList_some, List.append_assoc]
    rw [show (8 * (7 - (i : Int))).toNat = 56 - 8 * i by omega, show (7 - (i : Int) - 1) = 7 - ((i + 1 : Nat) : Int) by omega]
    rw [ofInt_nat]
    simp [bytes8, UInt64.mul_comm]
  · have hl : (bytes8 n).length = 8 := by simp [bytes8]
    unfold braidref01_tail_L2
    rw [if_neg (by simp), List.take_of_length_le (by omega)]
theorem ref_tail1 (n : Nat) (hn : n ≤ 1000000) : iter (braidref01_tail_L0 (n : Int)) [128] = some ([128] ++ List.replicate (zrs n) 0) := by
  refine iter_run (F := braidref01_tail_L0 (n : Int)) (b := [128] ++ List.replicate (zrs n) 0) (zrs n) (fun i => [128] ++ List.replicate i 0) (fun i hi => ?_) ?_
  · have hz : zrs n < 64 := Nat.mod_lt _ (by omega)
    have hl : (([128] ++ List.replicate i 0 : List UInt8).length : Int) = ((1 + i : Nat) : Int) := by simp; omega
    unfold braidref01_tail_L0
    rw [hl, w64_eq (x := (n : Int) + ((1 + i : Nat) : Int)) (by omega) (by omega), w64_eq (by omega) (by omega)]
    have ht : Int.tmod ((n : Int) + ((1 + i : Nat) : Int) + 8) 64 = (((n + 9 + i) % 64 : Nat) : Int) := by
      rw [Int.tmod_eq_emod_of_nonneg (by omega)]; omega
    rw [ht, if_pos]
    · rw [app_eq (by simp; omega)]
      simp only [bS]
      rw [List.replicate_succ', List.append_assoc]
    · simp only [bne_iff_ne, ne_eq]
      unfold zrs at hi
      omega
  · have hl : (([128] ++ List.replicate (zrs n) 0 : List UInt8).length : Int) = ((1 + zrs n : Nat) : Int) := by simp; omega
    have hz : zrs n < 64 := Nat.mod_lt _ (by omega)
    unfold braidref01_tail_L0
    rw [hl, w64_eq (x := (n : Int) + ((1 + zrs n : Nat) : Int)) (by omega) (by omega), w64_eq (by omega) (by omega)]
    have ht : Int.tmod ((n : Int) + ((1 + zrs n : Nat) : Int) + 8) 64 = 0 := by
      rw [Int.tmod_eq_emod_of_nonneg (by omega)]
      unfold zrs
      omega
    rw [ht, if_neg (by simp)]
theorem ref_tail (n : Nat) (hn : n ≤ 1000000) : braidref01_tail (n : Int) = some (tl n) := by
  have hz : zrs n < 64 := Nat.mod_lt _ (by omega)
  unfold braidref01_tail
  rw [ref_tail1 n hn]
  simp only [bS]
  rw [ref_tail2 n _ (by simp; omega)]
  simp only [bS]
  rfl
def wr (h : Vector UInt32 8) : Vector UInt8 32 := Vector.ofFn fun i => (shr32 (h[i.val / 4]'(by omega)) (24 - 8 * (i.val % 4))).toUInt8
theorem written_eq (h : Vector UInt32 8) : braidref01_written h = some (wr h) := by
  have : ∃ r, iter (braidref01_written_L0 h) (Vector.replicate 32 0, 0) = some r ∧ r = wr h := by
    refine iter_up (F := braidref01_written_L0 h) 32 (fun i s => s.2 = (i : Int) ∧ ∀ k (hk : k < 32), k < i → s.1[k] = (wr h)[k]) (fun r => r = wr h) (fun i s hi hs => ?_) (fun s hs => ?_) (Vector.replicate 32 0, 0) 0 (by omega) ⟨rfl, fun k hk h0 => by omega⟩
    · obtain ⟨v, j⟩ := s
      obtain ⟨h1, h2⟩ := hs
      simp only at h1 h2
      subst h1
      have hd : w64 (Int.tdiv (i : Int) 4) = ((i / 4 : Nat) : Int) := by
        have : Int.tdiv (i : Int) 4 = ((i / 4 : Nat) : Int) := by rw [Int.tdiv_eq_ediv_of_nonneg (by omega)]; omega
        rw [this, w64_eq (by omega) (by omega)]
      have hm : w64 (8 * (Int.tmod (i : Int) 4)) = ((8 * (i % 4) : Nat) : Int) := by
        have : Int.tmod (i : Int) 4 = ((i % 4 : Nat) : Int) := by rw [Int.tmod_eq_emod_of_nonneg (by omega)]; omega
        rw [this, w64_eq (by omega) (by omega)]; omega
      have hs : w64 (24 - ((8 * (i % 4) : Nat) : Int)) = ((24 - 8 * (i % 4) : Nat) : Int) := by rw [w64_eq (by omega) (by omega)]; omega
      refine ⟨(vset v (i : Int) ((shr32 (h[i / 4]'(by omega)) (24 - 8 * (i % 4))).toUInt8), ((i + 1 : Nat) : Int)), ?_, rfl, fun k hk hk2 => ?_⟩
      · unfold braidref01_written_L0
        rw [if_pos (by simp; omega)]
        simp only []
        rw [hd, hm, hs, vidx_nat (show i / 4 < 8 by omega), chk_true (by omega), vidx_nat hi, w64_nat (show i < 9223372036854775807 by omega)]
        simp only [bS, Int.toNat_natCast]
      · simp only []
        rw [vset_get hk, Int.toNat_natCast]
        by_cases e : i = k
        · subst e
          rw [if_pos rfl]
          simp [wr]
        · rw [if_neg e]; exact h2 k hk (by omega)
    · obtain ⟨v, j⟩ := s
      obtain ⟨h1, h2⟩ := hs
      simp only at h1 h2
      subst h1
      refine ⟨v, ?_, ?_⟩
      · unfold braidref01_written_L0
        rw [if_neg (by simp)]
      · exact Vector.ext fun k hk => h2 k hk hk
  obtain ⟨r, h1, rfl⟩ := this
  unfold braidref01_written
  rw [h1]
  simp only [bS]
theorem prog_written (m : api_Mill) : iter (digest_end_L2 m) (Vector.replicate 32 0, 0) = some (wr m.Words) := by
  have : ∃ r, iter (digest_end_L2 m) (Vector.replicate 32 0, 0) = some r ∧ r = wr m.Words := by
    refine iter_up (F := digest_end_L2 m) 8 (fun i s => s.2 = (i : Int) ∧ ∀ k (hk : k < 32), k < 4 * i → s.1[k] = (wr m.Words)[k]) (fun r => r = wr m.Words) (fun i s hi hs => ?_) (fun s hs => ?_) (Vector.replicate 32 0, 0) 0 (by omega) ⟨rfl, fun k hk h0 => by omega⟩
    · obtain ⟨v, j⟩ := s
      obtain ⟨h1, h2⟩ := hs
      simp only at h1 h2
      subst h1
      have e0 : w64 (4 * (i : Int)) = ((4 * i : Nat) : Int) := by rw [w64_eq (by omega) (by omega)]; omega
      have e1 : w64 (((4 * i : Nat) : Int) + 1) = ((4 * i + 1 : Nat) : Int) := by rw [w64_eq (by omega) (by omega)]; omega
      have e2 : w64 (((4 * i : Nat) : Int) + 2) = ((4 * i + 2 : Nat) : Int) := by rw [w64_eq (by omega) (by omega)]; omega
      have e3 : w64 (((4 * i : Nat) : Int) + 3) = ((4 * i + 3 : Nat) : Int) := by rw [w64_eq (by omega) (by omega)]; omega
      refine ⟨(vset (vset (vset (vset v ((4 * i : Nat) : Int) (shr32 m.Words[i] 24).toUInt8) ((4 * i + 1 : Nat) : Int) (shr32 m.Words[i] 16).toUInt8) ((4 * i + 2 : Nat) : Int) (shr32 m.Words[i] 8).toUInt8) ((4 * i + 3 : Nat) : Int) m.Words[i].toUInt8, ((i + 1 : Nat) : Int)), ?_, rfl, fun k hk hk2 => ?_⟩
      · unfold digest_end_L2
        rw [if_pos (by simp; omega)]
        simp only []
        rw [e0, e1, e2, e3, vidx_nat hi, vidx_nat (show 4 * i < 32 by omega), w64_nat (show i < 9223372036854775807 by omega)]
        simp only [bS]
        rw [vidx_nat (show 4 * i + 1 < 32 by omega), vidx_nat (show 4 * i + 2 < 32 by omega), vidx_nat (show 4 * i + 3 < 32 by omega)]
        simp only [bS]
      · simp only []
        rw [vset_get hk, vset_get hk, vset_get hk, vset_get hk]
        simp only [Int.toNat_natCast]
        have hw : (wr m.Words)[k] = (shr32 (m.Words[k / 4]'(by omega)) (24 - 8 * (k % 4))).toUInt8 := by simp [wr]
        have s0 : ∀ x : UInt32, shr32 x 0 = x := fun x => by
          apply UInt32.toNat_inj.1; rw [shr32_toNat]; simp
        by_cases c3 : 4 * i + 3 = k
        · subst c3
          rw [if_pos rfl, hw]
          have a1 : (4 * i + 3) / 4 = i := by omega
          have a2 : 24 - 8 * ((4 * i + 3) % 4) = 0 := by omega
          simp only [a1, a2, s0]
        · rw [if_neg c3]
          by_cases c2 : 4 * i + 2 = k
          · subst c2
            rw [if_pos rfl, hw]
            have a1 : (4 * i + 2) / 4 = i := by omega
            have a2 : 24 - 8 * ((4 * i + 2) % 4) = 8 := by omega
            simp only [a1, a2]
          · rw [if_neg c2]
            by_cases c1 : 4 * i + 1 = k
            · subst c1
              rw [if_pos rfl, hw]
              have a1 : (4 * i + 1) / 4 = i := by omega
              have a2 : 24 - 8 * ((4 * i + 1) % 4) = 16 := by omega
              simp only [a1, a2]
            · rw [if_neg c1]
              by_cases c0 : 4 * i = k
              · subst c0
                rw [if_pos rfl, hw]
                have a1 : (4 * i) / 4 = i := by omega
                have a2 : 24 - 8 * ((4 * i) % 4) = 24 := by omega
                simp only [a1, a2]
              · rw [if_neg c0]
                exact h2 k hk (by omega)
    · obtain ⟨v, j⟩ := s
      obtain ⟨h1, h2⟩ := hs
      simp only at h1 h2
      subst h1
      refine ⟨v, ?_, ?_⟩
      · unfold digest_end_L2
        rw [if_neg (by simp)]
      · exact Vector.ext fun k hk => h2 k hk (by omega)
  obtain ⟨r, h1, rfl⟩ := this
  exact h1
def sha (b : List UInt8) : Vector UInt8 32 := wr (blk H0 (b ++ tl b.length))
theorem end_eq (a : List UInt8) (h : a.length ≤ 300000) : digest_end (mill a) = some (sha a) := by
  have hz : zrs a.length < 64 := Nat.mod_lt _ (by omega)
  unfold digest_end
  rw [show (mill a).N = ((a.length : Nat) : Int) from rfl, ofInt_nat]
  simp only [bS]
  have ht : Int.tmod (w64 (119 - Int.tmod ((a.length : Nat) : Int) 64)) 64 = ((zrs a.length : Nat) : Int) := by
    have e1 : Int.tmod ((a.length : Nat) : Int) 64 = ((a.length % 64 : Nat) : Int) := by rw [Int.tmod_eq_emod_of_nonneg (by omega)]; omega
    rw [e1, w64_eq (by omega) (by omega), Int.tmod_eq_emod_of_nonneg (by omega)]
    unfold zrs
    omega
  rw [ht]
  have hap : appz 1 ([128] : List UInt8) 0 ((zrs a.length : Nat) : Int) = some ([128] ++ List.replicate (zrs a.length) 0) := by
    unfold appz
    rw [if_pos ⟨by omega, by simp; omega⟩, Int.toNat_natCast]
  rw [hap]
  simp only [bS]
  rw [prog_tail _ _ (by simp; omega)]
  simp only [bS]
  have htl : (tl a.length).length ≤ 200 := by simp [tl, bytes8]; omega
  rw [show ([128] ++ List.replicate (zrs a.length) 0) ++ bytes8 a.length = tl a.length from rfl, feed_mill a _ (by omega)]
  simp only [bS]
  rw [prog_written]
  simp only [bS]
  rfl
theorem Of_eq (b : List UInt8) (h : b.length ≤ 300000) : braidref01_Of b = some (sha b) := by
  have hz : zrs b.length < 64 := Nat.mod_lt _ (by omega)
  have htl : (tl b.length).length ≤ 200 := by simp [tl, bytes8]; omega
  unfold braidref01_Of braidref01_First
  simp only [bS]
  rw [app_eq (by simp; omega)]
  simp only [bS, List.nil_append]
  rw [ref_tail _ (by omega)]
  simp only [bS]
  rw [app_eq (by simp; omega)]
  simp only [bS]
  rw [blocks_eq _ _ (by simp; omega)]
  simp only [bS]
  rw [written_eq]
  simp only [bS]
  rfl
end Go.Proofs.YtjnheeekdadcpaaGreatDoor
namespace Go.Proofs.YtjnheeekdadcpaaGreatDoor
open Go Go.RowKit
set_option linter.unusedSimpArgs false
set_option linter.unusedVariables false
def pmod : Nat → Nat → Nat → Nat → Nat
  | 0, _, _, m => 1 % m
  | f + 1, a, n, m => if n = 0 then 1 % m else (if n % 2 = 1 then a * pmod f (a * a % m) (n / 2) m % m else pmod f (a * a % m) (n / 2) m)
theorem pmod_eq : ∀ (f a n m : Nat), n < 2 ^ f → pmod f a n m = a ^ n % m
  | 0, a, n, m, h => by
    have : n = 0 := by simpa using h
    subst this; rfl
  | f + 1, a, n, m, h => by
    have h2 : n / 2 < 2 ^ f := by rw [Nat.pow_succ] at h; omega
    have key : (a * a % m) ^ (n / 2) % m = a ^ (2 * (n / 2)) % m := by
      rw [← Nat.pow_mod, ← Nat.pow_two, ← Nat.pow_mul]
    simp only [pmod, pmod_eq f _ _ _ h2, key]
    split
    · rename_i h0; subst h0; rfl
    · split
      · rename_i h1
        rw [Nat.mul_mod, Nat.mod_mod, ← Nat.mul_mod, show a * a ^ (2 * (n / 2)) = a ^ (2 * (n / 2) + 1) by rw [Nat.pow_succ, Nat.mul_comm], show 2 * (n / 2) + 1 = n by omega]
      · rename_i h1
        rw [show 2 * (n / 2) = n by omega]
abbrev gp : Nat := 1000000007
abbrev gq : Nat := 500000003
theorem four_q : 4 ^ gq % gp = 1 := by
  rw [← pmod_eq 64 4 gq gp (by decide)]
  decide +kernel
def inG (a : Nat) : Prop := 0 < a ∧ a < gp ∧ a ^ gq % gp = 1
instance : DecidablePred inG := fun a => by unfold inG; exact inferInstance
theorem pow_pow_mod (a m n p : Nat) : (a ^ m % p) ^ n % p = a ^ (m * n) % p := by rw [← Nat.pow_mod, ← Nat.pow_mul]
theorem pow_q_mul {a : Nat} (h : a ^ gq % gp = 1) (k : Nat) : a ^ (gq * k) % gp = 1 := by
  rw [Nat.pow_mul, Nat.pow_mod, h, Nat.one_pow]
  rfl
theorem pow_q_add {a : Nat} (h : a ^ gq % gp = 1) (k r : Nat) : a ^ (gq * k + r) % gp = a ^ r % gp := by
  rw [Nat.pow_add, Nat.mul_mod, pow_q_mul h, Nat.one_mul, Nat.mod_mod]
theorem inG_pow {a : Nat} (h : a ^ gq % gp = 1) (n : Nat) : inG (a ^ n % gp) := by
  have h2 : (a ^ n % gp) ^ gq % gp = 1 := by rw [pow_pow_mod, Nat.mul_comm, pow_q_mul h]
  refine ⟨Nat.pos_of_ne_zero fun h0 => ?_, Nat.mod_lt _ (by decide), h2⟩
  rw [h0, Nat.zero_pow (by decide)] at h2
  exact absurd h2 (by decide)
theorem back_eq {y E : Nat} (h : y ^ gq % gp = 1) (hE : E < gq) : (y ^ E % gp) ^ (gq - 1) % gp = y ^ (gq - E) % gp := by
  rw [pow_pow_mod]
  by_cases h0 : E = 0
  · subst h0
    rw [Nat.zero_mul, Nat.sub_zero, h, Nat.pow_zero]
    decide
  · have e : E * (gq - 1) = gq * (E - 1) + (gq - E) := by
      obtain ⟨k, rfl⟩ : ∃ k, E = k + 1 := ⟨E - 1, by omega⟩
      have hE' : k + 1 < 500000003 := hE
      show (k + 1) * 500000002 = 500000003 * (k + 1 - 1) + (500000003 - (k + 1))
      omega
    rw [e, pow_q_add h]
theorem left_step {a n i p : Nat} : ((a ^ (n >>> (i + 1)) % p) * (a ^ (n >>> (i + 1)) % p) % p) * a ^ ((n >>> i) % 2) % p = a ^ (n >>> i) % p := by
  have e : n >>> i = 2 * (n >>> (i + 1)) + (n >>> i) % 2 := by
    rw [Nat.shiftRight_succ]; omega
  have key : ∀ x y : Nat, ((x % p) * (x % p) % p) * y % p = x * x * y % p := fun x y => by
    rw [Nat.mul_mod ((x % p) * (x % p) % p) y, Nat.mod_mod, ← Nat.mul_mod x x, ← Nat.mul_mod]
  rw [key, ← Nat.pow_add, ← Nat.pow_add]
  congr 2
  omega
end Go.Proofs.YtjnheeekdadcpaaGreatDoor
namespace Go.Proofs.YtjnheeekdadcpaaGreatDoor
open Go
set_option linter.unusedSimpArgs false
set_option linter.unusedVariables false
def u32 (n : Nat) : UInt32 := UInt32.ofNat n
theorem u32_toNat {n : Nat} (h : n < gp) : (u32 n).toNat = n := by
  have h : n < 1000000007 := h
  unfold u32; simp; omega
theorem m64 (x y : UInt64) (h : x.toNat * y.toNat < 18446744073709551616) : (x * y % 1000000007).toNat = x.toNat * y.toNat % gp := by
  rw [UInt64.toNat_mod, UInt64.toNat_mul, Nat.mod_eq_of_lt h]
  rfl
theorem to32 (x : UInt64) (h : x.toNat < gp) : x.toUInt32 = u32 x.toNat := by
  apply UInt32.toNat_inj.1
  have h : x.toNat < 1000000007 := h
  rw [u32_toNat h]; simp; omega
theorem mul2 (x y : UInt32) : group_mul 1000000007 [x, y] = some (u32 (x.toNat * y.toNat % gp)) := by
  have hx := UInt32.toNat_lt x
  have hy := UInt32.toNat_lt y
  have e1 : (1 * x.toUInt64 % 1000000007 : UInt64).toNat = x.toNat % gp := by
    rw [m64 _ _ (by simp; omega)]; simp
  have hlt : x.toNat % gp < 1000000007 := Nat.mod_lt _ (by decide)
  have hpr : (x.toNat % gp) * y.toNat ≤ 1000000007 * 4294967296 := Nat.mul_le_mul (by omega) (by omega)
  have e2 : (1 * x.toUInt64 % 1000000007 * y.toUInt64 % 1000000007 : UInt64).toNat = x.toNat * y.toNat % gp := by
    rw [m64 _ _ (by rw [e1]; simp; omega), e1]
    simp only [UInt32.toNat_toUInt64]
    rw [Nat.mod_mul_mod]
  have s1 : group_mul_L0 1000000007 [x, y] (1, 0) = some (.inr (1 * x.toUInt64 % 1000000007, 1)) := by
    unfold group_mul_L0
    rw [if_pos (by simp)]
    simp only []
    rw [show idx [x, y] 0 = some x from rfl, chk_true (by decide), w64_eq (x := (0 : Int) + 1) (by omega) (by omega)]
    simp only [bS]
    rfl
  have s2 : group_mul_L0 1000000007 [x, y] (1 * x.toUInt64 % 1000000007, 1) = some (.inr (1 * x.toUInt64 % 1000000007 * y.toUInt64 % 1000000007, 2)) := by
    unfold group_mul_L0
    rw [if_pos (by simp)]
    simp only []
    rw [show idx [x, y] 1 = some y from rfl, chk_true (by decide), w64_eq (x := (1 : Int) + 1) (by omega) (by omega)]
    simp only [bS]
    rfl
  have s3 : group_mul_L0 1000000007 [x, y] (1 * x.toUInt64 % 1000000007 * y.toUInt64 % 1000000007, 2) = some (.inl (1 * x.toUInt64 % 1000000007 * y.toUInt64 % 1000000007)) := by
    unfold group_mul_L0
    rw [if_neg (by simp)]
  unfold group_mul
  rw [iter_r s1, iter_r s2, iter_l s3]
  simp only [bS]
  rw [to32 _ (by rw [e2]; exact Nat.mod_lt _ (by decide)), e2]
theorem pow_step (a : UInt32) (n : UInt64) (i : Nat) (hi : i < 64) : group_pow_L0 a n (u32 (a.toNat ^ (n.toNat >>> (64 - i)) % gp), (i : Int)) = some (.inr (u32 (a.toNat ^ (n.toNat >>> (64 - (i + 1))) % gp), ((i + 1 : Nat) : Int))) := by
  have hlt : a.toNat ^ (n.toNat >>> (64 - i)) % gp < gp := Nat.mod_lt _ (by decide)
  have hlt2 : (a.toNat ^ (n.toNat >>> (64 - i)) % gp) * (a.toNat ^ (n.toNat >>> (64 - i)) % gp) % gp < gp := Nat.mod_lt _ (by decide)
  have hw : w64 (63 - (i : Int)) = ((63 - i : Nat) : Int) := by rw [w64_eq (by omega) (by omega)]; omega
  have key := left_step (a := a.toNat) (n := n.toNat) (i := 63 - i) (p := gp)
  rw [show 63 - i + 1 = 64 - i by omega] at key
  have hb := bit64 n (63 - i) (by omega)
  unfold group_pow_L0 group_pow_1
  rw [if_pos (by simp; omega)]
  simp only []
  rw [mul2, u32_toNat hlt]
  simp only [bS]
  rw [hw, chk_true (by omega), w64_nat (show i < 9223372036854775807 by omega)]
  simp only [bS]
  rw [show 64 - (i + 1) = 63 - i by omega]
  have hs : n.toNat >>> (63 - i) % 2 = (if n.toNat.testBit (63 - i) then 1 else 0) := by
    rw [Nat.testBit_eq_decide_div_mod_eq, ← Nat.shiftRight_eq_div_pow]
    by_cases h : n.toNat >>> (63 - i) % 2 = 1
    · simp [h]
    · simp [h]; omega
  cases ht : n.toNat.testBit (63 - i) with
  | true =>
    rw [ht] at hs
    rw [hs, if_pos rfl, Nat.pow_one] at key
    rw [if_pos (by rw [Int.toNat_natCast, hb]; exact ht), mul2, u32_toNat hlt2, key]
    simp only [bS]
  | false =>
    rw [ht] at hs
    rw [hs, if_neg (by simp), Nat.pow_zero, Nat.mul_one, Nat.mod_mod] at key
    rw [if_neg (by rw [Int.toNat_natCast, hb, ht]; simp), key]
theorem pow_eq (a : UInt32) (n : UInt64) : group_pow a n = some (u32 (a.toNat ^ n.toNat % gp)) := by
  have h0 : n.toNat >>> 64 = 0 := by
    rw [Nat.shiftRight_eq_div_pow]; exact Nat.div_eq_of_lt (UInt64.toNat_lt n)
  have := iter_run (F := group_pow_L0 a n) (b := u32 (a.toNat ^ n.toNat % gp)) 64 (fun i => (u32 (a.toNat ^ (n.toNat >>> (64 - i)) % gp), (i : Int))) (fun i hi => pow_step a n i hi) (by
    unfold group_pow_L0
    rw [if_neg (by simp)]
    simp)
  simp only [Nat.sub_zero, h0, Nat.pow_zero] at this
  unfold group_pow
  rw [show ((1 : UInt32), (0 : Int)) = (u32 (1 % gp), ((0 : Nat) : Int)) from rfl, this]
  simp only [bS]
theorem power_loop : ∀ (k : Nat) (a n o : UInt64), n.toNat = k → a.toNat < 4294967296 → o.toNat < gp → ∃ r : UInt64, iter (braidref02_Power_L0 1000000007) (a, n, o) = some r ∧ r.toNat = o.toNat * a.toNat ^ n.toNat % gp := by
  intro k
  induction k using Nat.strongRecOn with
  | _ k ih =>
    intro a n o hk ha ho
    have ho' : o.toNat < 1000000007 := ho
    by_cases hn : n.toNat = 0
    · refine ⟨o, iter_l ?_, ?_⟩
      · unfold braidref02_Power_L0
        rw [if_neg]
        simp only [decide_eq_true_eq, UInt64.lt_iff_toNat_lt]
        simp; omega
      · rw [hn, Nat.pow_zero, Nat.mul_one, Nat.mod_eq_of_lt ho]
    · have haa : (a * a % 1000000007).toNat = a.toNat * a.toNat % gp := m64 a a (by
        have : a.toNat * a.toNat ≤ 4294967295 * 4294967295 := Nat.mul_le_mul (by omega) (by omega)
        omega)
      have hoa : (o * a % 1000000007).toNat = o.toNat * a.toNat % gp := m64 o a (by
        have : o.toNat * a.toNat ≤ 1000000007 * 4294967295 := Nat.mul_le_mul (by omega) (by omega)
        omega)
      have hn2 : (n / 2).toNat = n.toNat / 2 := by simp
      have hm2 : ((n % 2) == 1) = decide (n.toNat % 2 = 1) := by
        rw [Bool.eq_iff_iff, beq_iff_eq, ← UInt64.toNat_inj]
        simp
      have hlt : a.toNat * a.toNat % gp < 1000000007 := Nat.mod_lt _ (by decide)
      have hol : o.toNat * a.toNat % gp < gp := Nat.mod_lt _ (by decide)
      have hpow : ∀ m : Nat, (a.toNat * a.toNat % gp) ^ m % gp = a.toNat ^ (2 * m) % gp := fun m => by
        rw [← Nat.pow_mod, ← Nat.pow_two, ← Nat.pow_mul]
      have hstep : braidref02_Power_L0 1000000007 (a, n, o) = some (.inr (a * a % 1000000007, n / 2, if n.toNat % 2 = 1 then o * a % 1000000007 else o)) := by
        unfold braidref02_Power_L0
        rw [if_pos (by simp only [decide_eq_true_eq, UInt64.lt_iff_toNat_lt]; simp; omega)]
        simp only []
        rw [hm2, chk_true (by decide)]
        by_cases h : n.toNat % 2 = 1
        · rw [if_pos (by simpa using h), if_pos h]
          simp only [bS]
        · rw [if_neg (by simpa using h), if_neg h]
          simp only [bS]
      rw [iter_r hstep]
      by_cases h : n.toNat % 2 = 1
      · rw [if_pos h]
        obtain ⟨r, h1, h2⟩ := ih (n / 2).toNat (by rw [hn2]; omega) (a * a % 1000000007) (n / 2) (o * a % 1000000007) rfl (by rw [haa]; omega) (by rw [hoa]; exact hol)
        refine ⟨r, h1, ?_⟩
        rw [h2, haa, hoa, hn2, Nat.mul_mod, hpow, Nat.mod_mod, ← Nat.mul_mod, Nat.mul_assoc, show a.toNat * a.toNat ^ (2 * (n.toNat / 2)) = a.toNat ^ (2 * (n.toNat / 2) + 1) by rw [Nat.pow_succ, Nat.mul_comm], show 2 * (n.toNat / 2) + 1 = n.toNat by omega]
      · rw [if_neg h]
        obtain ⟨r, h1, h2⟩ := ih (n / 2).toNat (by rw [hn2]; omega) (a * a % 1000000007) (n / 2) o rfl (by rw [haa]; omega) ho
        refine ⟨r, h1, ?_⟩
        rw [h2, haa, hn2, Nat.mul_mod, hpow, ← Nat.mul_mod, show 2 * (n.toNat / 2) = n.toNat by omega]
theorem power_eq (a n : UInt64) (ha : a.toNat < 4294967296) : ∃ r : UInt64, braidref02_Power a n 1000000007 = some r ∧ r.toNat = a.toNat ^ n.toNat % gp := by
  obtain ⟨r, h1, h2⟩ := power_loop _ a n 1 rfl ha (by decide)
  refine ⟨r, ?_, by rw [h2]; simp⟩
  unfold braidref02_Power
  rw [h1]
  simp only [bS]
theorem raised_eq (a : UInt32) (n : UInt64) : braidref02_Raised a n = some (u32 (a.toNat ^ n.toNat % gp)) := by
  obtain ⟨r, h1, h2⟩ := power_eq a.toUInt64 n (by simp; exact UInt32.toNat_lt a)
  unfold braidref02_Raised
  rw [h1]
  simp only [bS]
  simp only [UInt32.toNat_toUInt64] at h2
  rw [to32 _ (by rw [h2]; exact Nat.mod_lt _ (by decide)), h2]
theorem is_pow (a : UInt32) : (u32 (a.toNat ^ (500000003 : UInt64).toNat % gp) == 1) = decide (a.toNat ^ gq % gp = 1) := by
  have hlt : a.toNat ^ gq % gp < gp := Nat.mod_lt _ (by decide)
  rw [show (500000003 : UInt64).toNat = gq from rfl, Bool.eq_iff_iff, beq_iff_eq, decide_eq_true_iff, ← UInt32.toNat_inj, u32_toNat hlt]
  rfl
theorem is_eq (a : UInt32) : group_Is a = some (decide (inG a.toNat)) := by
  unfold group_Is
  have h1 : decide (0 < a) = decide (0 < a.toNat) := by simp [UInt32.lt_iff_toNat_lt]
  have h2 : decide (a < 1000000007) = decide (a.toNat < gp) := by simp [UInt32.lt_iff_toNat_lt]
  rw [h1, h2, pow_eq]
  simp only [bS]
  rw [is_pow]
  unfold inG
  by_cases c1 : 0 < a.toNat
  · by_cases c2 : a.toNat < gp
    · simp [c1, c2]
    · simp [c1, c2]
  · simp [c1]
theorem refIs_eq (a : UInt32) : braidref02_Is a = some (decide (inG a.toNat)) := by
  obtain ⟨r, hr1, hr2⟩ := power_eq a.toUInt64 500000003 (by simp; exact UInt32.toNat_lt a)
  unfold braidref02_Is
  have h1 : decide (1 ≤ a) = decide (0 < a.toNat) := by
    rw [decide_eq_decide, UInt32.le_iff_toNat_le]; simp; omega
  have h2 : decide (a < 1000000007) = decide (a.toNat < gp) := by simp [UInt32.lt_iff_toNat_lt]
  rw [h1, h2, hr1]
  simp only [bS]
  have h3 : (r == 1) = decide (a.toNat ^ gq % gp = 1) := by
    simp only [UInt32.toNat_toUInt64] at hr2
    rw [Bool.eq_iff_iff, beq_iff_eq, decide_eq_true_iff, ← UInt64.toNat_inj, hr2]
    rfl
  rw [h3]
  unfold inG
  by_cases c1 : 0 < a.toNat
  · by_cases c2 : a.toNat < gp
    · simp [c1, c2]
    · simp [c1, c2]
  · simp [c1]
end Go.Proofs.YtjnheeekdadcpaaGreatDoor
namespace Go.Proofs.YtjnheeekdadcpaaGreatDoor
open Go
set_option linter.unusedSimpArgs false
set_option linter.unusedVariables false
theorem none_long (l : List (List UInt8)) (h0 : l.length ≤ 20) (h : ∀ b ∈ l, b.length ≤ 10000) : slices_ContainsFunc_byte_byte_digest_Pieces_1 l = some false := by
  have : iter (slices_IndexFunc_byte_byte_digest_Pieces_1_L0 l) 0 = some (.inr ()) := by
    refine iter_run (F := slices_IndexFunc_byte_byte_digest_Pieces_1_L0 l) (b := .inr ()) l.length (fun i => (i : Int)) (fun i hi => ?_) ?_
    · have hb := h l[i] (List.getElem_mem _)
      unfold slices_IndexFunc_byte_byte_digest_Pieces_1_L0 digest_Pieces_1
      rw [if_pos (by simp; omega), idx_nat hi]
      simp only [bS]
      rw [if_neg (by simp; omega), w64_nat (show i < 9223372036854775807 by omega)]
    · unfold slices_IndexFunc_byte_byte_digest_Pieces_1_L0
      rw [if_neg (by simp)]
  unfold slices_ContainsFunc_byte_byte_digest_Pieces_1 slices_IndexFunc_byte_byte_digest_Pieces_1
  rw [this]
  simp only [or_r, bS]
  rfl
theorem flat_len : ∀ (l : List (List UInt8)), (∀ b ∈ l, b.length ≤ 10000) → l.flatten.length ≤ l.length * 10000
  | [], _ => by simp
  | b :: l, h => by
    have h1 := h b (by simp)
    have h2 := flat_len l (fun c hc => h c (by simp [hc]))
    simp only [List.flatten_cons, List.length_append, List.length_cons]; omega
theorem pieces_eq (l : List (List UInt8)) (h0 : l.length ≤ 20) (h : ∀ b ∈ l, b.length ≤ 10000) : digest_Pieces l = some (sha l.flatten, 0) := by
  have hl : iter (digest_Pieces_L0 l) (mill [], 0) = some (mill l.flatten) := by
    have := iter_run (F := digest_Pieces_L0 l) (b := mill l.flatten) l.length (fun i => (mill (l.take i).flatten, (i : Int))) (fun i hi => ?_) ?_
    · simpa using this
    · have hb := h l[i] (List.getElem_mem _)
      have hf := flat_len (l.take i) (fun b hb' => h b (List.mem_of_mem_take hb'))
      simp only [List.length_take] at hf
      unfold digest_Pieces_L0
      rw [if_pos (by simp; omega)]
      simp only []
      rw [idx_nat hi]
      simp only [bS]
      rw [feed_mill _ _ (by omega), w64_nat (show i < 9223372036854775807 by omega)]
      simp only [bS]
      rw [List.take_add_one, List.getElem?_eq_getElem hi, List.flatten_append]
      rw [show ((some l[i] : Option (List UInt8)).toList).flatten = l[i] by simp]
    · unfold digest_Pieces_L0
      rw [if_neg (by simp)]
      simp
  have hf := flat_len l h
  unfold digest_Pieces
  rw [if_neg (by simp; omega), none_long l h0 h]
  simp only [bS]
  rw [if_neg (by simp), start_eq]
  simp only [bS]
  rw [hl]
  simp only [bS]
  rw [end_eq _ (by omega)]
  simp only [bS]
theorem sum_eq (b : List UInt8) (h : b.length ≤ 10000) : digest_Sum b = some (sha b, 0) := by
  unfold digest_Sum
  rw [pieces_eq [b] (by simp) (by simpa using h)]
  simp
def four (x : UInt32) : List UInt8 := [(shr32 x 24).toUInt8, (shr32 x 16).toUInt8, (shr32 x 8).toUInt8, x.toUInt8]
theorem four_eq (x : UInt32) : braidref03_four x = some (four x) := by
  unfold braidref03_four four
  have hx := UInt32.toNat_lt x
  have e1 : (x / 16777216).toUInt8 = (shr32 x 24).toUInt8 := by
    apply UInt8.toNat_inj.1
    simp only [UInt32.toNat_toUInt8, shr32_toNat, UInt32.toNat_div]; rfl
  have e2 : ((x / 65536) % 256).toUInt8 = (shr32 x 16).toUInt8 := by
    apply UInt8.toNat_inj.1
    simp only [UInt32.toNat_toUInt8, shr32_toNat, UInt32.toNat_div, UInt32.toNat_mod]
    exact Nat.mod_mod _ _
  have e3 : ((x / 256) % 256).toUInt8 = (shr32 x 8).toUInt8 := by
    apply UInt8.toNat_inj.1
    simp only [UInt32.toNat_toUInt8, shr32_toNat, UInt32.toNat_div, UInt32.toNat_mod]
    exact Nat.mod_mod _ _
  have e4 : (x % 256).toUInt8 = x.toUInt8 := by
    apply UInt8.toNat_inj.1
    simp only [UInt32.toNat_toUInt8, UInt32.toNat_mod]
    exact Nat.mod_mod _ _
  rw [e1, e2, e3, e4]
def nump (d : Vector UInt8 32) : Nat → UInt64
  | 0 => 0
  | i + 1 => 256 * nump d i + (d.toList.getD i 0).toUInt64
theorem nump_lt (d : Vector UInt8 32) : ∀ i, i ≤ 8 → (nump d i).toNat < 256 ^ i
  | 0, _ => by simp [nump]
  | i + 1, h => by
    have ih := nump_lt d i (by omega)
    have hy := UInt8.toNat_lt (d.toList.getD i 0)
    have ep : 256 ^ (i + 1) = 256 ^ i * 256 := Nat.pow_succ ..
    have hp : 256 ^ i ≤ 256 ^ 7 := Nat.pow_le_pow_right (by omega) (by omega)
    have e7 : (256 : Nat) ^ 7 = 72057594037927936 := rfl
    rw [nump, UInt64.toNat_add, UInt64.toNat_mul, ep]
    have e1 : ((d.toList.getD i 0).toUInt64).toNat = (d.toList.getD i 0).toNat := by simp
    have e2 : (256 : UInt64).toNat = 256 := rfl
    rw [e1, e2, Nat.mod_eq_of_lt (a := 256 * (nump d i).toNat) (by omega), Nat.mod_eq_of_lt (by omega)]
    omega
theorem shl64_or (x : UInt64) (y : UInt8) (h : x.toNat < 72057594037927936) : (shl64 x 8) ||| y.toUInt64 = 256 * x + y.toUInt64 := by
  apply UInt64.toNat_inj.1
  have hy := UInt8.toNat_lt y
  rw [UInt64.toNat_or, shl64_toNat, UInt64.toNat_add, UInt64.toNat_mul]
  have e1 : (y.toUInt64).toNat = y.toNat := by simp
  have e2 : (256 : UInt64).toNat = 256 := rfl
  rw [e1, e2, show (2 : Nat) ^ (min 8 64) = 256 from rfl, Nat.mod_eq_of_lt (a := x.toNat * 256) (by omega), Nat.mod_eq_of_lt (a := 256 * x.toNat) (by omega), Nat.mod_eq_of_lt (by omega)]
  have := Nat.shiftLeft_add_eq_or_of_lt (i := 8) (b := y.toNat) (by simpa using hy) x.toNat
  rw [Nat.shiftLeft_eq, show (2 : Nat) ^ 8 = 256 from rfl] at this
  rw [← this]; omega
theorem prog_num (d : Vector UInt8 32) (e : Int) : iter (sign_hash_L2 (d, e)) (0, 0) = some (nump d 8) := by
  refine iter_run (F := sign_hash_L2 (d, e)) (b := nump d 8) 8 (fun i => (nump d i, (i : Int))) (fun i hi => ?_) ?_
  · have hl : ((d.toList.drop 0).take 8).length = 8 := by simp
    have hlt := nump_lt d i (by omega)
    have hp : 256 ^ i ≤ 256 ^ 7 := Nat.pow_le_pow_right (by omega) (by omega)
    have e7 : (256 : Nat) ^ 7 = 72057594037927936 := rfl
    unfold sign_hash_L2
    simp only [hl]
    rw [if_pos (by simp; omega), idx_d 0 (by rw [hl]; exact hi)]
    simp only [bS]
    rw [List.drop_zero, getD_take hi, shl64_or _ _ (by omega), w64_nat (show i < 9223372036854775807 by omega)]
    rfl
  · have hl : ((d.toList.drop 0).take 8).length = 8 := by simp
    unfold sign_hash_L2
    simp only [hl]
    rw [if_neg (by simp)]
theorem ref_num (b : List UInt8) (h : b.length ≤ 300000) : braidref03_number b = some (nump (sha b) 8) := by
  have : iter (braidref03_number_L0 (sha b)) (0, 0) = some (nump (sha b) 8) := by
    refine iter_run (F := braidref03_number_L0 (sha b)) (b := nump (sha b) 8) 8 (fun i => (nump (sha b) i, (i : Int))) (fun i hi => ?_) ?_
    · unfold braidref03_number_L0
      rw [if_pos (by simp; omega)]
      simp only [vidx_l]
      rw [idx_d 0 (by simp; omega), w64_nat (show i < 9223372036854775807 by omega)]
      simp only [bS]
      rfl
    · unfold braidref03_number_L0
      rw [if_neg (by simp)]
  unfold braidref03_number
  rw [Of_eq b h]
  simp only [bS]
  rw [this]
  simp only [bS]
def chal (r y : UInt32) (m : List UInt8) : UInt32 := (nump (sha ((([99] ++ four r) ++ four y) ++ m)) 8 % 500000003).toUInt32
theorem hash_eq (m : List UInt8) (r y : UInt32) (h : m.length ≤ 9991) : sign_hash 99 m [r, y] = some (nump (sha ((([99] ++ four r) ++ four y) ++ m)) 8, 0) := by
  have l1 : iter (sign_hash_L0 [r, y]) ([99], 0) = some (([99] ++ four r) ++ four y) := by
    have s1 : sign_hash_L0 [r, y] ([99], 0) = some (.inr ([99] ++ four r, 1)) := by
      unfold sign_hash_L0
      rw [if_pos (by simp)]
      simp only []
      rw [show idx [r, y] 0 = some r from rfl, w64_eq (x := (0 : Int) + 1) (by omega) (by omega)]
      simp only [bS]
      rw [app_eq (by simp)]
      rfl
    have s2 : sign_hash_L0 [r, y] ([99] ++ four r, 1) = some (.inr (([99] ++ four r) ++ four y, 2)) := by
      unfold sign_hash_L0
      rw [if_pos (by simp)]
      simp only []
      rw [show idx [r, y] 1 = some y from rfl, w64_eq (x := (1 : Int) + 1) (by omega) (by omega)]
      simp only [bS]
      rw [app_eq (by simp [four])]
      rfl
    have s3 : sign_hash_L0 [r, y] (([99] ++ four r) ++ four y, 2) = some (.inl (([99] ++ four r) ++ four y)) := by
      unfold sign_hash_L0
      rw [if_neg (by simp)]
    rw [iter_r s1, iter_r s2, iter_l s3]
  unfold sign_hash
  rw [if_neg (by simp; omega), l1]
  simp only [bS]
  rw [pieces_eq _ (by simp) (by
    intro b hb
    simp only [List.mem_cons, List.not_mem_nil, or_false] at hb
    rcases hb with rfl | rfl
    · simp [four]
    · omega)]
  simp only [bS]
  rw [prog_num, show [([99] ++ four r) ++ four y, m].flatten = (([99] ++ four r) ++ four y) ++ m by simp only [List.flatten_cons, List.flatten_nil, List.append_nil]]
  rfl
theorem challenge_eq (r y : UInt32) (m : List UInt8) (h : m.length ≤ 9991) : sign_Challenge r y m = some (chal r y m, 0) := by
  unfold sign_Challenge
  rw [hash_eq m r y h]
  simp only [bS]
  rw [if_neg (by simp)]
  rfl
theorem refChallenge_eq (r y : UInt32) (m : List UInt8) (h : m.length ≤ 9991) : braidref03_challenge r y m = some (chal r y m) := by
  unfold braidref03_challenge
  rw [four_eq]
  simp only [bS]
  rw [app_eq (by simp [four]), four_eq]
  simp only [bS]
  rw [app_eq (by simp [four])]
  simp only [bS]
  rw [app_eq (by simp [four]; omega)]
  simp only [bS]
  rw [ref_num _ (by simp [four]; omega)]
  simp only [bS]
  rfl
def expoS (x : UInt32) : Bool := decide (x.toNat < gq)
theorem exponent_eq (x : UInt32) : braidref02_Exponent x = some (expoS x) := by
  have e : decide (x.toUInt64 < 500000003) = expoS x := by unfold expoS; simp [UInt64.lt_iff_toNat_lt]
  unfold braidref02_Exponent
  rw [e]
  rfl
def sigR (y : UInt32) (s : api_Sig) : UInt32 := u32 ((4 ^ s.S.toNat % gp) * (y.toNat ^ (gq - s.E.toNat) % gp) % gp)
def sigOk (y : UInt32) (m : List UInt8) (s : api_Sig) : Bool := expoS s.E && (expoS s.S && (chal (sigR y s) y m == s.E))
theorem right_eq (y : UInt32) (m : List UInt8) (s : api_Sig) (hy : inG y.toNat) (h : m.length ≤ 9991) : braidref03_Right y m s = some (sigOk y m s) := by
  unfold braidref03_Right sigOk
  rw [exponent_eq]
  simp only [bS]
  cases hE : expoS s.E with
  | false => rw [if_pos (by simp)]; rfl
  | true =>
    rw [if_neg (by simp), exponent_eq]
    simp only [bS]
    cases hS : expoS s.S with
    | false => rw [if_pos (by simp)]; rfl
    | true =>
      have hE' : s.E.toNat < gq := by simpa [expoS] using hE
      have hin := inG_pow hy.2.2 s.E.toNat
      have hlt : y.toNat ^ s.E.toNat % gp < gp := Nat.mod_lt _ (by decide)
      rw [if_neg (by simp), raised_eq]
      simp only [bS]
      unfold braidref02_Inv braidref03_Key braidref02_Base
      rw [refIs_eq, u32_toNat (by simpa using hlt)]
      simp only [bS]
      have hE64 : s.E.toUInt64.toNat = s.E.toNat := by simp
      rw [hE64, decide_eq_true hin, if_neg (by simp), raised_eq, u32_toNat hlt, raised_eq]
      simp only [bS]
      rw [show (500000002 : UInt64).toNat = gq - 1 from rfl, back_eq hy.2.2 hE']
      unfold braidref02_Product
      simp only [bS]
      have hS64 : s.S.toUInt64.toNat = s.S.toNat := by simp
      have hl1 : 4 ^ s.S.toNat % gp < gp := Nat.mod_lt _ (by decide)
      have hl2 : y.toNat ^ (gq - s.E.toNat) % gp < gp := Nat.mod_lt _ (by decide)
      have hprod : ((u32 ((4 : UInt32).toNat ^ s.S.toUInt64.toNat % gp)).toUInt64 * (u32 (y.toNat ^ (gq - s.E.toNat) % gp)).toUInt64 % 1000000007).toUInt32 = sigR y s := by
        have hb : (4 ^ s.S.toNat % gp) * (y.toNat ^ (gq - s.E.toNat) % gp) ≤ 1000000007 * 1000000007 := Nat.mul_le_mul (Nat.le_of_lt hl1) (Nat.le_of_lt hl2)
        have e1 := m64 (u32 ((4 : UInt32).toNat ^ s.S.toUInt64.toNat % gp)).toUInt64 (u32 (y.toNat ^ (gq - s.E.toNat) % gp)).toUInt64
        simp only [UInt32.toNat_toUInt64] at e1
        rw [show (4 : UInt32).toNat = 4 from rfl, u32_toNat hl1, u32_toNat hl2] at e1
        have e1 := e1 (by omega)
        rw [show (4 : UInt32).toNat = 4 from rfl, hS64, to32 _ (by rw [e1]; exact Nat.mod_lt _ (by decide)), e1]
        rfl
      rw [hprod, refChallenge_eq _ _ _ h]
      simp only [bS]
      rfl
theorem all1 (a : UInt32) (h : inG a.toNat) : group_all [a] = some true := by
  unfold group_all
  have s1 : group_all_L0 [a] 0 = some (.inr 1) := by
    unfold group_all_L0
    rw [if_pos (by simp), show idx [a] 0 = some a from rfl]
    simp only [bS]
    rw [is_eq, decide_eq_true h, w64_eq (x := (0 : Int) + 1) (by omega) (by omega)]
    rfl
  have s2 : group_all_L0 [a] 1 = some (.inl (.inr ())) := by
    unfold group_all_L0
    rw [if_neg (by simp)]
  rw [iter_r s1, iter_l s2]
  rfl
theorem all2 (a b : UInt32) (h : inG a.toNat) (h2 : inG b.toNat) : group_all [a, b] = some true := by
  unfold group_all
  have s1 : group_all_L0 [a, b] 0 = some (.inr 1) := by
    unfold group_all_L0
    rw [if_pos (by simp), show idx [a, b] 0 = some a from rfl]
    simp only [bS]
    rw [is_eq, decide_eq_true h, w64_eq (x := (0 : Int) + 1) (by omega) (by omega)]
    rfl
  have s2 : group_all_L0 [a, b] 1 = some (.inr 2) := by
    unfold group_all_L0
    rw [if_pos (by simp), show idx [a, b] 1 = some b from rfl]
    simp only [bS]
    rw [is_eq, decide_eq_true h2, w64_eq (x := (1 : Int) + 1) (by omega) (by omega)]
    rfl
  have s3 : group_all_L0 [a, b] 2 = some (.inl (.inr ())) := by
    unfold group_all_L0
    rw [if_neg (by simp)]
  rw [iter_r s1, iter_r s2, iter_l s3]
  rfl
theorem verify_eq (y : UInt32) (m : List UInt8) (s : api_Sig) (hy : inG y.toNat) (h : m.length ≤ 9991) : sign_Verify y m s = some (if sigOk y m s then 0 else 22) := by
  have hmax : decide (500000003 ≤ max s.E s.S) = !(expoS s.E && expoS s.S) := by
    have e1 : (500000003 ≤ max s.E s.S) ↔ (500000003 ≤ s.E ∨ 500000003 ≤ s.S) := by
      rw [show max s.E s.S = if s.E ≤ s.S then s.S else s.E from rfl]
      split
      · rename_i hh
        constructor
        · exact fun h => .inr h
        · rintro (h | h)
          · exact UInt32.le_trans h hh
          · exact h
      · rename_i hh
        constructor
        · exact fun h => .inl h
        · rintro (h | h)
          · exact h
          · rw [UInt32.le_iff_toNat_le] at *; omega
    rw [Bool.eq_iff_iff, decide_eq_true_iff, e1]
    unfold expoS
    simp only [UInt32.le_iff_toNat_le, Bool.not_eq_true', Bool.and_eq_false_iff, decide_eq_false_iff_not, Nat.not_lt]
    rfl
  unfold sign_Verify
  rw [is_eq, decide_eq_true hy]
  simp only [bS]
  rw [if_neg (by simp), if_neg (by simp; omega), hmax]
  cases hE : expoS s.E with
  | false => unfold sigOk; rw [hE]; rfl
  | true =>
    cases hS : expoS s.S with
    | false => unfold sigOk; rw [hE, hS]; rfl
    | true =>
      have hE' : s.E.toNat < gq := by simpa [expoS] using hE
      have hE' : s.E.toNat < 500000003 := hE'
      rw [if_neg (by simp)]
      unfold group_Pow group_Base group_Mul
      rw [all1 y hy]
      simp only [bS]
      rw [if_neg (by simp), pow_eq]
      simp only [bS]
      rw [pow_eq]
      simp only [bS]
      have hS64 : s.S.toUInt64.toNat = s.S.toNat := by simp
      have hq : (500000003 - s.E.toUInt64).toNat = gq - s.E.toNat := by
        rw [UInt64.toNat_sub_of_le _ _ (by rw [UInt64.le_iff_toNat_le]; simp; omega)]
        simp
      have hl1 : 4 ^ s.S.toNat % gp < gp := Nat.mod_lt _ (by decide)
      have hl2 : y.toNat ^ (gq - s.E.toNat) % gp < gp := Nat.mod_lt _ (by decide)
      rw [hq, hS64, show (4 : UInt32).toNat = 4 from rfl]
      rw [all2 _ _ (by rw [u32_toNat hl1]; exact inG_pow four_q _) (by rw [u32_toNat hl2]; exact inG_pow hy.2.2 _)]
      simp only [bS]
      rw [if_neg (by simp), mul2, u32_toNat hl1, u32_toNat hl2]
      simp only [bS]
      rw [challenge_eq _ _ _ h]
      simp only [bS]
      rw [if_neg (by simp)]
      unfold sigOk
      rw [hE, hS]
      show (if (chal (sigR y s) y m != s.E) = true then some 22 else some 0) = _
      by_cases hc : chal (sigR y s) y m = s.E
      · simp [hc]
      · simp [hc]
end Go.Proofs.YtjnheeekdadcpaaGreatDoor
namespace Go.Proofs.YtjnheeekdadcpaaGreatDoor
open Go
set_option linter.unusedSimpArgs false
set_option linter.unusedVariables false
def okc (c : UInt8) : Bool := decide (33 ≤ c.toNat) && decide (c.toNat ≤ 126)
theorem key1_eq (x : Int) : op_key_1 x = some (decide (x < 33) || decide (126 < x)) := by
  unfold op_key_1
  cases decide (x < 33) <;> rfl
theorem key_find (b : List UInt8) : ∀ (rest pre : List UInt8), b = pre ++ rest →
    (rest.all okc = true → iter (strings_indexFunc_op_key_1_L0 b true) pre.length = some (.inr ())) ∧ (rest.all okc = false → ∃ i : Nat, iter (strings_indexFunc_op_key_1_L0 b true) pre.length = some (.inl (i : Int)))
  | [], pre, e => by
    refine ⟨fun _ => iter_l ?_, fun h => by simp at h⟩
    subst e
    unfold strings_indexFunc_op_key_1_L0
    simp
  | c :: rest, pre, e => by
    have hlen : pre.length < b.length := by rw [e]; simp
    have hget : b[pre.length]'hlen = c := by subst e; simp
    have hF : strings_indexFunc_op_key_1_L0 b true pre.length = if ((decide (((runeAt b pre.length).1 : Int) < 33) || decide (126 < ((runeAt b pre.length).1 : Int))) == true) then some (.inl (.inl (pre.length : Int))) else some (.inr (pre.length + (runeAt b pre.length).2)) := by
      unfold strings_indexFunc_op_key_1_L0
      rw [if_pos hlen]
      simp only [bs, key1_eq]
    cases hc : okc c with
    | false =>
      refine ⟨fun h => by simp [hc] at h, fun _ => ⟨pre.length, iter_l ?_⟩⟩
      rw [hF, if_pos]
      by_cases h8 : c.toNat < 128
      · rw [rune_lo hlen (by rw [hget]; exact h8), hget]
        simp only [okc, Bool.and_eq_false_iff, decide_eq_false_iff_not] at hc
        simp; omega
      · have := rune_hi hlen (by rw [hget]; omega)
        simp; omega
    | true =>
      simp only [okc, Bool.and_eq_true, decide_eq_true_eq] at hc
      rw [rune_lo hlen (by rw [hget]; omega), hget, if_neg (by simp; omega)] at hF
      have ih := key_find b rest (pre ++ [c]) (by simp [e])
      simp only [List.length_append, List.length_cons, List.length_nil, Nat.zero_add] at ih
      rw [iter_r hF]
      have hc' : okc c = true := by simp [okc, hc]
      simpa [hc'] using ih
theorem name_L0 (b : List UInt8) (hb : b.length ≤ 9223372036854775807) : ∀ (rest pre : List UInt8), b = pre ++ rest → iter (braidref06_Name_L0 b) (pre.length : Int) = some (if rest.all okc then .inr () else .inl false)
  | [], pre, e => by
    refine iter_l ?_
    subst e
    unfold braidref06_Name_L0
    simp
  | c :: rest, pre, e => by
    have hlen : pre.length < b.length := by rw [e]; simp
    have hget : b[pre.length]'hlen = c := by subst e; simp
    have hF : braidref06_Name_L0 b (pre.length : Int) = if okc c then some (.inr ((pre.length + 1 : Nat) : Int)) else some (.inl (.inl false)) := by
      unfold braidref06_Name_L0
      rw [if_pos (by simp <;> omega)]
      simp only [idx_nat hlen, hget, bs, w64_nat (show pre.length < 9223372036854775807 by omega)]
      simp only [okc, UInt8.lt_iff_toNat_lt, UInt8.reduceToNat]
      by_cases h1 : c.toNat < 33
      · have : ¬ 33 ≤ c.toNat := by omega
        simp [h1, this]
      · by_cases h2 : 126 < c.toNat
        · have : ¬ c.toNat ≤ 126 := by omega
          simp [h1, h2, this]
        · have h3 : 33 ≤ c.toNat := by omega
          have h4 : c.toNat ≤ 126 := by omega
          simp [h1, h2, h3, h4]
    cases hc : okc c with
    | false => rw [hc] at hF; rw [iter_l hF]; simp [hc]
    | true =>
      rw [hc] at hF
      rw [iter_r hF]
      have ih := name_L0 b hb rest (pre ++ [c]) (by simp [e])
      simp only [List.length_append, List.length_cons, List.length_nil, Nat.zero_add] at ih
      rw [ih]; simp [hc]
def okName (k : List UInt8) : Bool := decide (1 ≤ k.length) && (decide (k.length ≤ 20) && k.all okc)
theorem name_eq (k : List UInt8) : braidref06_Name k = some (okName k) := by
  unfold braidref06_Name okName
  by_cases h1 : 1 ≤ k.length
  · by_cases h2 : k.length ≤ 20
    · have h := name_L0 k (by omega) k [] rfl
      rw [if_neg (by simp; omega), if_neg (by simp; omega), show (0 : Int) = (([] : List UInt8).length : Int) from rfl, h, decide_eq_true h1, decide_eq_true h2]
      cases k.all okc <;> rfl
    · rw [if_neg (by simp; omega), if_pos (by simp; omega), decide_eq_false h2]; simp
  · rw [if_pos (by simp; omega), decide_eq_false h1]; rfl
theorem key_eq (k : List UInt8) : op_key k = some (okName k) := by
  unfold op_key okName strings_IndexFunc_op_key_1 strings_indexFunc_op_key_1
  by_cases h1 : 1 ≤ k.length
  · by_cases h2 : k.length ≤ 20
    · obtain ⟨e1, e2⟩ := key_find k k [] rfl
      simp only [List.length_nil] at e1 e2
      rw [if_pos (by simp; omega), if_pos (by simp; omega), decide_eq_true h1, decide_eq_true h2]
      cases h : k.all okc
      · obtain ⟨i, hi⟩ := e2 h
        rw [hi]
        simp only [or_l, bS]
        rw [decide_eq_false (by omega)]; rfl
      · rw [e1 h]; rfl
    · rw [if_pos (by simp; omega), if_neg (by simp; omega), decide_eq_false h2]; simp
  · rw [if_neg (by simp; omega), decide_eq_false h1]; rfl
def v0 : api_Value := ⟨0, 0, 0, []⟩
def okAct (a : api_Act) : Bool :=
  if a.Kind = 1 then decide (a.Key = []) && decide (a.Value = v0)
  else if a.Kind = 2 ∨ a.Kind = 3 then okName a.Key && decide (a.Value = v0)
  else if a.Kind = 4 then okName a.Key && okV a.Value
  else false
theorem act_eq (a : api_Act) (h : a.Value.Text.length ≤ 9223372036854775807) : op_CheckAct a = some (if okAct a then 0 else 8) := by
  obtain ⟨K, key, v⟩ := a
  unfold op_CheckAct okAct
  simp only at h ⊢
  rw [key_eq, vCheck_eq v h]
  by_cases h1 : K = 1
  · subst h1
    by_cases hk : key = [] <;> by_cases hv : v = ⟨0, 0, 0, []⟩ <;> simp [hk, hv, v0]
  by_cases h2 : K = 2 ∨ K = 3
  · have e : (if K == 2 then some true else some (K == 3)) = some true := by
      rcases h2 with rfl | rfl <;> rfl
    rw [if_neg (by simpa using h1), e, if_neg h1, if_pos h2]
    simp only [bS]
    rw [if_pos trivial]
    cases okName key with
    | false => rfl
    | true =>
      by_cases hv : v = ⟨0, 0, 0, []⟩
      · subst hv; rfl
      · have hv' : ¬ v = v0 := hv
        simp only [bS, if_true, decide_eq_false hv, decide_eq_false hv']; rfl
  · have e : (if K == 2 then some true else some (K == 3)) = some false := by
      have e2 : (K == 2) = false := by simp; exact fun h => h2 (.inl h)
      have e3 : (K == 3) = false := by simp; exact fun h => h2 (.inr h)
      rw [e2, e3]; rfl
    rw [if_neg (by simpa using h1), e, if_neg h1, if_neg h2]
    simp only [bS]
    rw [if_neg (by simp)]
    by_cases h4 : K = 4
    · subst h4
      rw [if_pos (by decide), if_pos rfl]
      cases okName key with
      | false => rfl
      | true => cases okV v <;> rfl
    · rw [if_neg (by simpa using h4), if_neg h4]; rfl
theorem refAct_eq (a : api_Act) (h : a.Value.Text.length ≤ 9223372036854775807) : braidref06_CheckAct a = some (if okAct a then 0 else 8) := by
  obtain ⟨K, key, v⟩ := a
  unfold braidref06_CheckAct okAct
  simp only at h ⊢
  rw [name_eq, rCheck_eq v h]
  simp only [bS]
  by_cases h1 : K = 1
  · subst h1
    by_cases hk : key = [] <;> by_cases hv : v = ⟨0, 0, 0, []⟩ <;> simp [hk, hv, v0]
  by_cases h2 : K = 2 ∨ K = 3
  · have e : (if K == 2 then some true else some (K == 3)) = some true := by
      rcases h2 with rfl | rfl <;> rfl
    rw [if_neg (by simpa using h1), e, if_neg h1, if_pos h2]
    simp only [bS]
    rw [if_pos trivial]
    cases okName key with
    | false => rfl
    | true =>
      by_cases hv : v = ⟨0, 0, 0, []⟩
      · subst hv; rfl
      · have hv' : ¬ v = v0 := hv
        simp only [bS, if_true, decide_eq_false hv, decide_eq_false hv']; rfl
  · have e : (if K == 2 then some true else some (K == 3)) = some false := by
      have e2 : (K == 2) = false := by simp; exact fun h => h2 (.inl h)
      have e3 : (K == 3) = false := by simp; exact fun h => h2 (.inr h)
      rw [e2, e3]; rfl
    rw [if_neg (by simpa using h1), e, if_neg h1, if_neg h2]
    simp only [bS]
    rw [if_neg (by simp)]
    by_cases h4 : K = 4
    · subst h4
      rw [if_pos (by decide), if_pos rfl]
      cases okName key with
      | false => rfl
      | true => cases okV v <;> rfl
    · rw [if_neg (by simpa using h4), if_neg h4]; rfl
theorem clone_ids (l : List (Vector UInt8 32)) (h : l.length ≤ 100) : slices_Clone_api_ID_api_ID l = some l := by
  unfold slices_Clone_api_ID_api_ID
  rw [app_eq (by simp; omega)]; rfl
def okRest (a : api_Op) : Bool := decide (inG a.Author.toNat) && (!decide (1000000000000 < a.Stamp) && (okAct a.Act && (expoS a.Sig.E && expoS a.Sig.S)))
def opCode (a : api_Op) : Int := if 4 < a.Preds.length then 4 else if incr a.Preds = false then 32 else if okRest a then 0 else 8
theorem max_expo (x y : UInt32) : decide (500000003 ≤ max x y) = !(expoS x && expoS y) := by
  have e1 : (500000003 ≤ max x y) ↔ (500000003 ≤ x ∨ 500000003 ≤ y) := by
    rw [show max x y = if x ≤ y then y else x from rfl]
    split
    · rename_i hh
      constructor
      · exact fun h => .inr h
      · rintro (h | h)
        · exact UInt32.le_trans h hh
        · exact h
    · rename_i hh
      constructor
      · exact fun h => .inl h
      · rintro (h | h)
        · exact h
        · rw [UInt32.le_iff_toNat_le] at *; omega
  rw [Bool.eq_iff_iff, decide_eq_true_iff, e1]
  unfold expoS
  simp only [UInt32.le_iff_toNat_le, Bool.not_eq_true', Bool.and_eq_false_iff, decide_eq_false_iff_not, Nat.not_lt]
  rfl
theorem sortedPreds (l : List (Vector UInt8 32)) (h : l.length ≤ 4) : (slices_IsSortedFunc_api_ID_api_ID_digest_Cmp l >>= fun r5 => if !r5 then some true else slices_Clone_api_ID_api_ID l >>= fun r8 => slices_Compact_api_ID_api_ID r8 >>= fun r10 => some ((r10.length : Int) != (l.length : Int)) >>= fun y12 => some y12) = some (!incr l) := by
  obtain ⟨b, e1, e2⟩ := sorted_eq l (by omega)
  obtain ⟨c, e3, e4⟩ := compact_eq l (by omega)
  have e5 := adj_incr l
  rw [e1]
  simp only [bS]
  cases b with
  | false =>
    have : incr l = false := by
      rw [← Bool.not_eq_true, e5]; intro h; have := e2.2 h.1; simp at this
    rw [this]; rfl
  | true =>
    rw [if_neg (by simp), clone_ids l (by omega)]
    simp only [bS]
    rw [e3]
    simp only [bS]
    by_cases hc : c.length = l.length
    · rw [e5.2 ⟨e2.1 rfl, e4.1 hc⟩, hc]; simp
    · have : incr l = false := by
        rw [← Bool.not_eq_true, e5]; intro h; exact hc (e4.2 h.2)
      rw [this]; simp; omega
theorem opCheck_eq (a : api_Op) (h : a.Act.Value.Text.length ≤ 9223372036854775807) : op_Check a = some (opCode a) := by
  unfold op_Check opCode
  simp only [bS]
  by_cases h4 : 4 < a.Preds.length
  · rw [if_pos (by simp; omega), if_pos h4]
  · rw [if_neg (by simp; omega), if_neg h4]
    have := sortedPreds a.Preds (by omega)
    simp only [bS] at this
    rw [this]
    simp only [bS]
    cases hi : incr a.Preds with
    | false => rfl
    | true =>
      rw [if_neg (by simp), is_eq, act_eq _ h, max_expo]
      simp only [bS]
      unfold okRest
      cases decide (inG a.Author.toNat) with
      | false => rfl
      | true =>
        cases decide (1000000000000 < a.Stamp) with
        | true => rfl
        | false => cases okAct a.Act <;> cases expoS a.Sig.E <;> cases expoS a.Sig.S <;> rfl
theorem refCheck_eq (a : api_Op) (h : a.Act.Value.Text.length ≤ 9223372036854775807) : braidref06_Check a = some (opCode a) := by
  unfold braidref06_Check opCode
  by_cases h4 : 4 < a.Preds.length
  · rw [if_pos (by simp; omega), if_pos h4]
  · rw [if_neg (by simp; omega), if_neg h4, Rising_eq _ (by omega)]
    simp only [bS]
    cases hi : incr a.Preds with
    | false => rfl
    | true =>
      rw [if_neg (by simp), refIs_eq, refAct_eq _ h, exponent_eq, exponent_eq]
      simp only [bS]
      unfold okRest
      cases decide (inG a.Author.toNat) with
      | false => rfl
      | true =>
        cases decide (1000000000000 < a.Stamp) with
        | true => rfl
        | false => cases okAct a.Act <;> cases expoS a.Sig.E <;> cases expoS a.Sig.S <;> rfl
theorem opCode_ok {a : api_Op} (h : opCode a = 0) : a.Preds.length ≤ 4 ∧ incr a.Preds = true ∧ okRest a = true := by
  unfold opCode at h
  by_cases h4 : 4 < a.Preds.length
  · rw [if_pos h4] at h; omega
  · rw [if_neg h4] at h
    cases hi : incr a.Preds with
    | false => rw [hi] at h; simp at h
    | true =>
      rw [hi] at h
      cases hr : okRest a with
      | false => rw [hr] at h; simp at h
      | true => exact ⟨by omega, rfl, rfl⟩
theorem okName_len {k : List UInt8} (h : okName k = true) : k.length ≤ 20 := by
  unfold okName at h
  simp only [Bool.and_eq_true, decide_eq_true_eq] at h
  exact h.2.1
theorem okAct_kind {a : api_Act} (h : okAct a = true) : (a.Kind = 1 ∧ a.Key = []) ∨ ((a.Kind = 2 ∨ a.Kind = 3) ∧ a.Key.length ≤ 20) ∨ (a.Kind = 4 ∧ a.Key.length ≤ 20 ∧ okV a.Value = true) := by
  unfold okAct at h
  by_cases h1 : a.Kind = 1
  · rw [if_pos h1] at h; simp only [Bool.and_eq_true, decide_eq_true_eq] at h; exact .inl ⟨h1, h.1⟩
  · rw [if_neg h1] at h
    by_cases h2 : a.Kind = 2 ∨ a.Kind = 3
    · rw [if_pos h2] at h; simp only [Bool.and_eq_true, decide_eq_true_eq] at h; exact .inr (.inl ⟨h2, okName_len h.1⟩)
    · rw [if_neg h2] at h
      by_cases h4 : a.Kind = 4
      · rw [if_pos h4] at h; simp only [Bool.and_eq_true] at h; exact .inr (.inr ⟨h4, okName_len h.1, h.2⟩)
      · rw [if_neg h4] at h; simp at h
end Go.Proofs.YtjnheeekdadcpaaGreatDoor
namespace Go.Proofs.YtjnheeekdadcpaaGreatDoor
open Go
set_option linter.unusedSimpArgs false
set_option linter.unusedVariables false
theorem flat_take {α : Type} (l : List (List α)) (i : Nat) (h : i < l.length) : (l.take (i + 1)).flatten = (l.take i).flatten ++ l[i] := by
  rw [List.take_add_one, List.getElem?_eq_getElem h, List.flatten_append]
  simp
theorem concat_eq (l : List (List UInt8)) (h0 : l.length ≤ 20) (h : ∀ b ∈ l, b.length ≤ 10000) : slices_Concat_byte_byte l = some l.flatten := by
  have hb : ∀ i, (l.take i).flatten.length ≤ 200000 := fun i => by
    have := flat_len (l.take i) (fun b hb' => h b (List.mem_of_mem_take hb'))
    simp only [List.length_take] at this; omega
  have e1 : iter (slices_Concat_byte_byte_L0 l) (0, 0) = some (l.flatten.length : Int) := by
    have := iter_run (F := slices_Concat_byte_byte_L0 l) (b := (l.flatten.length : Int)) l.length (fun i => (((l.take i).flatten.length : Int), (i : Int))) (fun i hi => ?_) ?_
    · simpa using this
    · have h1 := hb (i + 1)
      have e := congrArg List.length (flat_take l i hi)
      rw [List.length_append] at e
      unfold slices_Concat_byte_byte_L0
      rw [if_pos (by simp; omega)]
      simp only []
      rw [idx_nat hi]
      simp only [bS]
      rw [w64_eq (x := ((l.take i).flatten.length : Int) + (l[i].length : Int)) (by omega) (by omega), if_neg (by simp; omega), w64_nat (show i < 9223372036854775807 by omega), e]
      simp
    · unfold slices_Concat_byte_byte_L0
      rw [if_neg (by simp)]
      simp
  have e2 : slices_Grow_byte_byte (l.flatten.length : Int) = some [] := by
    have h1 := hb l.length
    rw [List.take_length] at h1
    unfold slices_Grow_byte_byte
    rw [if_neg (by simp)]
    simp only [bS]
    generalize l.flatten.length = n at h1 ⊢
    rw [show (0 : Int) - (([] : List UInt8).length : Int) = 0 from rfl, w64_eq (x := 0) (by omega) (by omega), show (n : Int) - 0 = (n : Int) by omega, w64_eq (by omega) (by omega)]
    by_cases h2 : 0 < n
    · rw [if_pos (by simpa using h2), mkn_eq (by omega) (by omega)]
      simp only [bS]
      rw [show (0 : Int) = ((0 : Nat) : Int) from rfl, show ((([] : List UInt8).length : Nat) : Int) = ((0 : Nat) : Int) from rfl, cut_eq (by omega) (by simp)]
      simp
    · rw [if_neg (by simpa using h2)]
  have e3 : iter (slices_Concat_byte_byte_L2 l) ([], 0) = some l.flatten := by
    have := iter_run (F := slices_Concat_byte_byte_L2 l) (b := l.flatten) l.length (fun i => ((l.take i).flatten, (i : Int))) (fun i hi => ?_) ?_
    · simpa using this
    · have h1 := hb (i + 1)
      have e := flat_take l i hi
      rw [e, List.length_append] at h1
      unfold slices_Concat_byte_byte_L2
      rw [if_pos (by simp; omega)]
      simp only []
      rw [idx_nat hi]
      simp only [bS]
      rw [app_eq (by omega), w64_nat (show i < 9223372036854775807 by omega), e]
      simp only [bS]
    · unfold slices_Concat_byte_byte_L2
      rw [if_neg (by simp)]
      simp
  unfold slices_Concat_byte_byte
  rw [e1]
  simp only [bS]
  rw [e2]
  simp only [bS]
  rw [e3]
  simp only [bS]
def head (a : api_Op) : List UInt8 := [111] ++ (numBytes a.Author.toNat ++ ((numBytes a.Preds.length ++ idsL a.Preds) ++ (numBytes a.Stamp.toNat ++ [a.Act.Kind])))
def keyB (a : api_Act) : List UInt8 := numBytes a.Key.length ++ a.Key
def msg (a : api_Op) : List UInt8 :=
  if a.Act.Kind = 1 then head a else if a.Act.Kind = 4 then (head a ++ keyB a.Act) ++ encV a.Act.Value else head a ++ keyB a.Act
def encOp (a : api_Op) : List UInt8 := msg a ++ (numBytes a.Sig.E.toNat ++ numBytes a.Sig.S.toNat)
theorem encV_len {v : api_Value} (h : okV v = true) (hI : inI v.Num) : (encV v).length ≤ 100 := by
  unfold encV
  rcases okV_kind h with k | k | k
  · have := numBytes_len (zig v.Num) (zig_in hI)
    rw [if_pos k]; simp; omega
  · rw [k, if_neg (by decide), if_pos rfl]; simp [be8]
  · have h3 := (okV3 h k).2.2.1
    have := numBytes_len v.Text.length (by omega)
    rw [k, if_neg (by decide), if_neg (by decide)]; simp; omega
theorem head_len {a : api_Op} (h : opCode a = 0) : (head a).length ≤ 300 := by
  obtain ⟨h1, h2, h3⟩ := opCode_ok h
  have l1 := numBytes_len a.Author.toNat (by have := UInt32.toNat_lt a.Author; omega)
  have l2 := numBytes_len a.Preds.length (by omega)
  have l3 := numBytes_len a.Stamp.toNat (UInt64.toNat_lt _)
  have l4 := idsL_len a.Preds
  unfold head
  simp only [List.length_append, List.length_cons, List.length_nil]; omega
theorem keyB_len {a : api_Act} (h : okAct a = true) : (keyB a).length ≤ 100 := by
  have hk : a.Key.length ≤ 20 := by
    rcases okAct_kind h with ⟨_, h⟩ | ⟨_, h⟩ | ⟨_, h, _⟩
    · simp [h]
    · exact h
    · exact h
  have := numBytes_len a.Key.length (by omega)
  unfold keyB; simp only [List.length_append]; omega
theorem okRest_act {a : api_Op} (h : okRest a = true) : okAct a.Act = true := by
  unfold okRest at h
  simp only [Bool.and_eq_true] at h
  exact h.2.2.1
theorem okRest_in {a : api_Op} (h : okRest a = true) : inG a.Author.toNat := by
  unfold okRest at h
  simp only [Bool.and_eq_true, decide_eq_true_eq] at h
  exact h.1
theorem msg_len {a : api_Op} (h : opCode a = 0) (hI : inI a.Act.Value.Num) : (msg a).length ≤ 600 := by
  have h1 := head_len h
  have ha := okRest_act (opCode_ok h).2.2
  have h2 := keyB_len ha
  unfold msg
  split
  · omega
  · split
    · rename_i h4
      have : okV a.Act.Value = true := by
        rcases okAct_kind ha with ⟨k, _⟩ | ⟨k, _⟩ | ⟨_, _, k⟩
        · rw [h4] at k; simp at k
        · rw [h4] at k; simp at k
        · exact k
      have h3 := encV_len this hI
      simp only [List.length_append]; omega
    · simp only [List.length_append]; omega
theorem enc_len {a : api_Op} (h : opCode a = 0) (hI : inI a.Act.Value.Num) : (encOp a).length ≤ 700 := by
  have h1 := msg_len h hI
  have l1 := numBytes_len a.Sig.E.toNat (by have := UInt32.toNat_lt a.Sig.E; omega)
  have l2 := numBytes_len a.Sig.S.toNat (by have := UInt32.toNat_lt a.Sig.S; omega)
  unfold encOp
  simp only [List.length_append]; omega
def bare (a : api_Op) : api_Op := { a with Sig := (⟨0, 0⟩ : api_Sig) }
theorem bare_code {a : api_Op} (h : opCode a = 0) : opCode (bare a) = 0 := by
  obtain ⟨h1, h2, h3⟩ := opCode_ok h
  unfold okRest at h3
  simp only [Bool.and_eq_true] at h3
  obtain ⟨g1, g2, g3, g4, g5⟩ := h3
  unfold opCode bare
  rw [if_neg (by simp; omega), h2, if_neg (by simp), if_pos]
  unfold okRest
  rw [g1, g2, g3]; rfl
theorem message_eq (a : api_Op) (h : opCode a = 0) (hI : inI a.Act.Value.Num) (ht : a.Act.Value.Text.length ≤ 9223372036854775807) : op_Message a = some (msg a, 0) := by
  obtain ⟨h1, h2, h3⟩ := opCode_ok h
  have ha := okRest_act h3
  have l1 := numBytes_len a.Author.toNat (by have := UInt32.toNat_lt a.Author; omega)
  have l2 := numBytes_len a.Preds.length (by omega)
  have l3 := numBytes_len a.Stamp.toNat (UInt64.toNat_lt _)
  have l4 := idsL_len a.Preds
  have hl := head_len h
  have e1 : op_Check { a with Sig := (⟨0, 0⟩ : api_Sig) } = some 0 := by
    have := opCheck_eq (bare a) ht
    rw [bare_code h] at this
    exact this
  unfold op_Message
  rw [e1]
  simp only [bS]
  rw [if_neg (by simp), ids_eq7 _ (by omega) h2]
  simp only [bS]
  rw [wireNumber_eq, wireNumber_eq]
  simp only [bS]
  rw [concat_eq _ (by simp) (by
    intro b hb
    simp only [List.mem_cons, List.not_mem_nil, or_false] at hb
    rcases hb with rfl | rfl | rfl | rfl | rfl
    · simp
    · simp; omega
    · simp only [List.length_append]; omega
    · omega
    · simp)]
  simp only [bS]
  have e2 : [[111], numBytes a.Author.toUInt64.toNat, numBytes a.Preds.length ++ idsL a.Preds, numBytes a.Stamp.toNat, [a.Act.Kind]].flatten = head a := by
    unfold head
    simp only [List.flatten_cons, List.flatten_nil, List.append_nil, UInt32.toNat_toUInt64]
  rw [e2]
  unfold msg
  by_cases k1 : a.Act.Kind = 1
  · rw [if_pos (by simpa using k1), if_pos k1]
  · rw [if_neg (by simpa using k1), if_neg k1]
    have hk : a.Act.Key.length ≤ 20 := by
      rcases okAct_kind ha with ⟨_, h⟩ | ⟨_, h⟩ | ⟨_, h, _⟩
      · simp [h]
      · exact h
      · exact h
    have l5 := keyB_len ha
    have e3 : wire_Bytes a.Act.Key = some (keyB a.Act, 0) := wbytes_eq _ (by omega)
    rw [chk_true (by omega)]
    simp only [bS]
    rw [e3]
    simp only [bS]
    rw [app_eq (by omega)]
    simp only [bS]
    by_cases k4 : a.Act.Kind = 4
    · have hv : okV a.Act.Value = true := by
        rcases okAct_kind ha with ⟨k, _⟩ | ⟨k, _⟩ | ⟨_, _, k⟩
        · rw [k4] at k; simp at k
        · rw [k4] at k; simp at k
        · exact k
      have l6 := encV_len hv hI
      rw [if_pos (by simpa using k4), if_pos k4, enc_eq _ hI ht, hv]
      simp only [bS, if_true]
      rw [app_eq (by simp only [List.length_append]; omega)]
      simp only [bS]
    · rw [if_neg (by simpa using k4), if_neg k4]
theorem text_eq (a : api_Op) (h : opCode a = 0) (hI : inI a.Act.Value.Num) : braidref06_text a = some (msg a) := by
  obtain ⟨h1, h2, h3⟩ := opCode_ok h
  have ha := okRest_act h3
  have l1 := numBytes_len a.Author.toNat (by have := UInt32.toNat_lt a.Author; omega)
  have l2 := numBytes_len a.Preds.length (by omega)
  have l3 := numBytes_len a.Stamp.toNat (UInt64.toNat_lt _)
  have l4 := idsL_len a.Preds
  have hl := head_len h
  unfold braidref06_text
  rw [refNumber_eq]
  simp only [bS]
  rw [app_eq (by simp; omega), list_eq7 _ (by omega)]
  simp only [bS]
  rw [app_eq (by simp; omega), refNumber_eq]
  simp only [bS]
  rw [app_eq (by simp; omega)]
  simp only [bS]
  rw [app_eq (by simp; omega)]
  simp only [bS]
  have e2 : [111] ++ numBytes a.Author.toUInt64.toNat ++ (numBytes a.Preds.length ++ idsL a.Preds) ++ numBytes a.Stamp.toNat ++ [a.Act.Kind] = head a := by
    unfold head
    simp only [List.append_assoc, UInt32.toNat_toUInt64]
  rw [e2]
  unfold msg
  by_cases k1 : a.Act.Kind = 1
  · rw [if_neg (by simp [k1]), if_pos k1]
    simp only [bS]
    rw [k1]; rfl
  · rw [if_pos (by simpa using k1), if_neg k1]
    have hk : a.Act.Key.length ≤ 20 := by
      rcases okAct_kind ha with ⟨_, h⟩ | ⟨_, h⟩ | ⟨_, h, _⟩
      · simp [h]
      · exact h
      · exact h
    have l5 := keyB_len ha
    have e3 : braidref04_Text a.Act.Key = some (keyB a.Act) := refText_eq _ (by omega)
    rw [chk_true (by omega)]
    simp only [bS]
    rw [e3]
    simp only [bS]
    rw [app_eq (by omega)]
    simp only [bS]
    by_cases k4 : a.Act.Kind = 4
    · have hv : okV a.Act.Value = true := by
        rcases okAct_kind ha with ⟨k, _⟩ | ⟨k, _⟩ | ⟨_, _, k⟩
        · rw [k4] at k; simp at k
        · rw [k4] at k; simp at k
        · exact k
      have l6 := encV_len hv hI
      rw [if_pos (by simpa using k4), if_pos k4, rBytes_eq _ hI hv]
      simp only [bS]
      rw [app_eq (by simp only [List.length_append]; omega)]
      simp only [bS]
    · rw [if_neg (by simpa using k4), if_neg k4]
theorem encode_eq (a : api_Op) (h : opCode a = 0) (hI : inI a.Act.Value.Num) (ht : a.Act.Value.Text.length ≤ 9223372036854775807) : op_Encode a = some (encOp a, 0) := by
  have hm := msg_len h hI
  have l1 := numBytes_len a.Sig.E.toNat (by have := UInt32.toNat_lt a.Sig.E; omega)
  have l2 := numBytes_len a.Sig.S.toNat (by have := UInt32.toNat_lt a.Sig.S; omega)
  unfold op_Encode
  rw [opCheck_eq _ ht, h]
  simp only [bS]
  rw [if_neg (by simp), message_eq _ h hI ht, wireNumber_eq, wireNumber_eq]
  simp only [bS, UInt32.toNat_toUInt64]
  rw [concat_eq _ (by simp) (by
    intro b hb
    simp only [List.mem_cons, List.not_mem_nil, or_false] at hb
    rcases hb with rfl | rfl | rfl <;> omega)]
  simp only [bS, List.flatten_cons, List.flatten_nil, List.append_nil]
  rfl
theorem refBytes_eq (a : api_Op) (h : opCode a = 0) (hI : inI a.Act.Value.Num) : braidref06_Bytes a = some (encOp a) := by
  have hm := msg_len h hI
  have l1 := numBytes_len a.Sig.E.toNat (by have := UInt32.toNat_lt a.Sig.E; omega)
  have l2 := numBytes_len a.Sig.S.toNat (by have := UInt32.toNat_lt a.Sig.S; omega)
  unfold braidref06_Bytes encOp
  rw [text_eq _ h hI, refNumber_eq, refNumber_eq]
  simp only [bS, UInt32.toNat_toUInt64]
  rw [app_eq (by omega)]
  simp only [bS]
  rw [app_eq (by simp only [List.length_append]; omega)]
  simp only [bS, List.append_assoc]
def z32 : Vector UInt8 32 := Vector.replicate 32 0
theorem opID_eq (a : api_Op) (hI : inI a.Act.Value.Num) (ht : a.Act.Value.Text.length ≤ 9223372036854775807) : op_ID a = some (if opCode a = 0 then (sha (encOp a), 0) else (z32, opCode a)) := by
  unfold op_ID
  by_cases h : opCode a = 0
  · have := enc_len h hI
    rw [encode_eq a h hI ht]
    simp only [bS]
    rw [if_neg (by simp), sum_eq _ (by omega), if_pos h]
    simp only [bS]
  · have e : op_Encode a = some ([], opCode a) := by
      unfold op_Encode
      rw [opCheck_eq _ ht]
      simp only [bS]
      rw [if_pos (by simpa using h)]
    rw [e]
    simp only [bS]
    rw [if_pos (by simpa using h), if_neg h]; rfl
theorem refOf_eq (a : api_Op) (h : opCode a = 0) (hI : inI a.Act.Value.Num) : braidref06_Of a = some (sha (encOp a)) := by
  have := enc_len h hI
  unfold braidref06_Of
  rw [refBytes_eq a h hI]
  simp only [bS]
  rw [Of_eq _ (by omega)]
  simp only [bS]
def opBad (a : api_Op) : Int := if opCode a = 0 then (if sigOk a.Author (msg a) a.Sig then 0 else 22) else opCode a
theorem opVerify_eq (a : api_Op) (hI : inI a.Act.Value.Num) (ht : a.Act.Value.Text.length ≤ 9223372036854775807) : op_Verify a = some (opBad a) := by
  unfold op_Verify opBad
  rw [opCheck_eq _ ht]
  simp only [bS]
  by_cases h : opCode a = 0
  · have := msg_len h hI
    rw [if_neg (by simp [h]), if_pos h, message_eq a h hI ht]
    simp only [bS]
    rw [verify_eq _ _ _ (okRest_in (opCode_ok h).2.2) (by omega)]
    simp only [bS]
  · rw [if_pos (by simpa using h), if_neg h]
theorem refVerify_eq (a : api_Op) (hI : inI a.Act.Value.Num) (ht : a.Act.Value.Text.length ≤ 9223372036854775807) : braidref06_Verify a = some (opBad a) := by
  unfold braidref06_Verify opBad braidref06_Signed
  rw [refCheck_eq _ ht]
  simp only [bS]
  by_cases h : opCode a = 0
  · have := msg_len h hI
    rw [if_neg (by simp [h]), if_pos h, text_eq a h hI]
    simp only [bS]
    rw [right_eq _ _ _ (okRest_in (opCode_ok h).2.2) (by omega)]
    simp only [bS]
    cases sigOk a.Author (msg a) a.Sig <;> rfl
  · rw [if_pos (by simpa using h), if_neg h]
end Go.Proofs.YtjnheeekdadcpaaGreatDoor
namespace Go.Proofs.YtjnheeekdadcpaaGreatDoor
open Go
set_option linter.unusedSimpArgs false
set_option linter.unusedVariables false
theorem nodup_le {α : Type} [DecidableEq α] : ∀ (p q : List α), p.Nodup → (∀ x ∈ p, x ∈ q) → p.length ≤ q.length
  | [], _, _, _ => by simp
  | a :: p, q, h, hs => by
    have ha := hs a (by simp)
    have hn := List.nodup_cons.1 h
    have := nodup_le p (q.erase a) hn.2 (fun x hx => by
      have hne : x ≠ a := fun e => hn.1 (e ▸ hx)
      exact (List.mem_erase_of_ne hne).2 (hs x (by simp [hx])))
    rw [List.length_erase_of_mem ha] at this
    have hp := List.length_pos_of_mem ha
    simp only [List.length_cons]; omega
theorem nodup_len {α : Type} [DecidableEq α] {p q : List α} (h1 : p.Nodup) (h2 : q.Nodup) (h : ∀ x, x ∈ p ↔ x ∈ q) : p.length = q.length :=
  Nat.le_antisymm (nodup_le p q h1 fun x hx => (h x).1 hx) (nodup_le q p h2 fun x hx => (h x).2 hx)
abbrev ID := Vector UInt8 32
theorem incr_lt {l : List ID} (h : incr l = true) {i j : Nat} (hi : i < l.length) (hj : j < l.length) (hij : i < j) : kd l[i] < kd l[j] :=
  List.pairwise_iff_getElem.1 ((incr_pw l).1 h) i j hi hj hij
theorem incr_inj {l : List ID} (h : incr l = true) {i j : Nat} (hi : i < l.length) (hj : j < l.length) (e : l[i] = l[j]) : i = j := by
  rcases Nat.lt_trichotomy i j with c | c | c
  · have := incr_lt h hi hj c; rw [e] at this; omega
  · exact c
  · have := incr_lt h hj hi c; rw [e] at this; omega
theorem incr_nodup {l : List ID} (h : incr l = true) : l.Nodup := by
  have := (incr_pw l).1 h
  exact this.imp fun {a b} hab e => by rw [e] at hab; omega
theorem idxOf_at {l : List ID} (h : incr l = true) {k : Nat} (hk : k < l.length) : l.idxOf l[k] = k := by
  have h1 : l.idxOf l[k] < l.length := List.idxOf_lt_length_of_mem (List.getElem_mem hk)
  exact incr_inj h h1 hk (by simp)
theorem half_eq (s e : Nat) (h : s + e < 9223372036854775807) : w64 ((shr64 (UInt64.ofInt (w64 ((s : Int) + (e : Int)))) 1).toNat : Int) = (((s + e) / 2 : Nat) : Int) := by
  rw [w64_eq (x := (s : Int) + (e : Int)) (by omega) (by omega), show ((s : Int) + (e : Int)) = ((s + e : Nat) : Int) by omega, shr64_toNat, ofInt_len (by omega)]
  rw [show min 1 64 = 1 from rfl, Nat.pow_one, w64_eq (by omega) (by omega)]
theorem bsearch (l : List ID) (hl : l.length ≤ 4611686018427387903) (hi : incr l = true) (x : ID) : ∃ b : Int, iter (slices_BinarySearchFunc_api_ID_api_ID_api_ID_digest_Cmp_L0 l x) (0, (l.length : Int)) = some b ∧ ∃ k : Nat, b = (k : Int) ∧ k ≤ l.length ∧ (∀ i (h : i < l.length), i < k → kd l[i] < kd x) ∧ (∀ i (h : i < l.length), k ≤ i → kd x ≤ kd l[i]) := by
  refine iter_inv (F := slices_BinarySearchFunc_api_ID_api_ID_api_ID_digest_Cmp_L0 l x)
    (fun st => ∃ s e : Nat, st = ((s : Int), (e : Int)) ∧ s ≤ e ∧ e ≤ l.length ∧ (∀ i (h : i < l.length), i < s → kd l[i] < kd x) ∧ (∀ i (h : i < l.length), e ≤ i → kd x ≤ kd l[i]))
    (fun st => st.2.toNat - st.1.toNat) _ ?_ _ ⟨0, l.length, rfl, by omega, by omega, fun i _ h => by omega, fun i h h2 => by omega⟩
  rintro st ⟨s, e, rfl, h1, h2, h3, h4⟩
  by_cases hse : s < e
  · right
    have hm : (s + e) / 2 < l.length := by omega
    have hF : slices_BinarySearchFunc_api_ID_api_ID_api_ID_digest_Cmp_L0 l x ((s : Int), (e : Int)) = if decide (kd l[(s + e) / 2] < kd x) then some (.inr ((((s + e) / 2 + 1 : Nat) : Int), (e : Int))) else some (.inr ((s : Int), (((s + e) / 2 : Nat) : Int))) := by
      unfold slices_BinarySearchFunc_api_ID_api_ID_api_ID_digest_Cmp_L0
      simp only []
      rw [if_pos (by simpa using hse), half_eq _ _ (by omega)]
      simp only [bS]
      rw [idx_nat hm]
      simp only [bS]
      rw [cmp_kd]
      simp only [bS]
      rw [cmp_lt, w64_nat (show (s + e) / 2 < 9223372036854775807 by omega)]
    by_cases hc : kd l[(s + e) / 2] < kd x
    · rw [decide_eq_true hc, if_pos rfl] at hF
      refine ⟨_, hF, ⟨(s + e) / 2 + 1, e, rfl, by omega, h2, fun i h hi2 => ?_, h4⟩, by simp; omega⟩
      by_cases he : i = (s + e) / 2
      · subst he; exact hc
      · have := incr_lt hi h hm (by omega); omega
    · rw [decide_eq_false hc, if_neg (by simp)] at hF
      refine ⟨_, hF, ⟨s, (s + e) / 2, rfl, by omega, by omega, h3, fun i h hi2 => ?_⟩, by simp; omega⟩
      by_cases he : i = (s + e) / 2
      · subst he; omega
      · have := incr_lt hi hm h (by omega); omega
  · left
    refine ⟨(s : Int), ?_, s, rfl, by omega, h3, fun i h hi2 => h4 i h (by omega)⟩
    unfold slices_BinarySearchFunc_api_ID_api_ID_api_ID_digest_Cmp_L0
    simp only []
    rw [if_neg (by simpa using hse)]
theorem find_in (l : List ID) (hl : l.length ≤ 4611686018427387903) (hi : incr l = true) (x : ID) : ∃ k : Nat, slices_BinarySearchFunc_api_ID_api_ID_api_ID_digest_Cmp l x = some ((k : Int), decide (x ∈ l)) ∧ (x ∈ l → k = l.idxOf x ∧ k < l.length) ∧ k ≤ l.length := by
  obtain ⟨b, h1, k, rfl, h2, h3, h4⟩ := bsearch l hl hi x
  unfold slices_BinarySearchFunc_api_ID_api_ID_api_ID_digest_Cmp
  simp only [bS]
  rw [h1]
  simp only [bS]
  have hmem : x ∈ l → ∃ h : k < l.length, l[k] = x := fun hx => by
    obtain ⟨i, hi1, rfl⟩ := List.getElem_of_mem hx
    have a1 : ¬ i < k := fun c => by have := h3 i hi1 c; omega
    by_cases a2 : k = i
    · subst a2; exact ⟨hi1, rfl⟩
    · have hk : k < l.length := by omega
      have := h4 k hk (Nat.le_refl _)
      have := incr_lt hi hk hi1 (by omega)
      omega
  by_cases hk : k < l.length
  · rw [if_pos (by simpa using hk), idx_nat hk]
    simp only [bS]
    rw [cmp_kd]
    simp only [bS]
    rw [cmp_z]
    refine ⟨k, ?_, fun hx => ?_, by omega⟩
    · have : decide (l[k] = x) = decide (x ∈ l) := by
        rw [decide_eq_decide]
        exact ⟨fun e => e ▸ List.getElem_mem hk, fun hx => (hmem hx).2⟩
      rw [this]
    · obtain ⟨h, e⟩ := hmem hx
      subst e
      exact ⟨(idxOf_at hi h).symm, h⟩
  · rw [if_neg (by simpa using hk)]
    refine ⟨k, ?_, fun hx => absurd (hmem hx).1 hk, by omega⟩
    rw [decide_eq_false fun hx => hk (hmem hx).1]
theorem dag_find_eq (g : api_Graph) (hl : g.IDs.length ≤ 4611686018427387903) (hi : incr g.IDs = true) (x : ID) : ∃ k : Nat, dag_find g x = some ((k : Int), decide (x ∈ g.IDs)) ∧ (x ∈ g.IDs → k = g.IDs.idxOf x ∧ k < g.IDs.length) ∧ k ≤ g.IDs.length := by
  obtain ⟨k, h1, h2, h3⟩ := find_in g.IDs hl hi x
  refine ⟨k, ?_, h2, h3⟩
  unfold dag_find
  rw [h1]
  simp only [bS]
theorem at_from (l : List ID) (x : ID) (hl : l.length ≤ 9223372036854775806) : ∀ (rest pre : List ID), l = pre ++ rest → ∃ r : Sum Int Unit, iter (braidref09_At_L0 l x) (pre.length : Int) = some r ∧ ((r = .inr () ∧ x ∉ rest) ∨ ∃ i : Nat, r = .inl (i : Int) ∧ ∃ h : i < l.length, l[i] = x)
  | [], pre, e => by
    refine ⟨_, iter_l ?_, .inl ⟨rfl, by simp⟩⟩
    subst e
    unfold braidref09_At_L0
    rw [if_neg (by simp)]
  | c :: rest, pre, e => by
    have hlen : pre.length < l.length := by rw [e]; simp
    have hget : l[pre.length]'hlen = c := by subst e; simp
    have hF : braidref09_At_L0 l x (pre.length : Int) = if decide (c = x) then some (.inl (.inl (pre.length : Int))) else some (.inr ((pre.length + 1 : Nat) : Int)) := by
      unfold braidref09_At_L0
      rw [if_pos (by simpa using hlen), idx_nat hlen, hget, w64_nat (by omega)]
      simp only [bS]
    by_cases hc : c = x
    · rw [decide_eq_true hc, if_pos rfl] at hF
      exact ⟨_, iter_l hF, .inr ⟨pre.length, rfl, hlen, by rw [hget, hc]⟩⟩
    · rw [decide_eq_false hc, if_neg (by simp)] at hF
      obtain ⟨r, h1, h2⟩ := at_from l x hl rest (pre ++ [c]) (by simp [e])
      simp only [List.length_append, List.length_cons, List.length_nil, Nat.zero_add] at h1
      refine ⟨r, by rw [iter_r hF]; exact h1, ?_⟩
      rcases h2 with ⟨h2, h3⟩ | h2
      · exact .inl ⟨h2, by simp; exact ⟨fun e => hc e.symm, h3⟩⟩
      · exact .inr h2
theorem at_eq (l : List ID) (x : ID) (hl : l.length ≤ 9223372036854775806) : ∃ k : Int, braidref09_At l x = some k ∧ ((k = -1 ∧ x ∉ l) ∨ ∃ i : Nat, k = (i : Int) ∧ ∃ h : i < l.length, l[i] = x) := by
  obtain ⟨r, h1, h2⟩ := at_from l x hl l [] rfl
  unfold braidref09_At
  rw [show (0 : Int) = (([] : List ID).length : Int) from rfl, h1]
  rcases h2 with ⟨rfl, h3⟩ | ⟨i, rfl, h3⟩
  · exact ⟨-1, rfl, .inl ⟨rfl, h3⟩⟩
  · exact ⟨(i : Int), rfl, .inr ⟨i, rfl, h3⟩⟩
theorem at_neg (l : List ID) (x : ID) (hl : l.length ≤ 9223372036854775806) : ∃ k : Int, braidref09_At l x = some k ∧ decide (k < 0) = !decide (x ∈ l) := by
  obtain ⟨k, h1, h2⟩ := at_eq l x hl
  refine ⟨k, h1, ?_⟩
  rcases h2 with ⟨rfl, h2⟩ | ⟨i, rfl, h, rfl⟩
  · rw [decide_eq_false h2]; rfl
  · rw [decide_eq_true (List.getElem_mem h), decide_eq_false (by omega)]; rfl
theorem all_from (l : List ID) (p : List ID) (hl : l.length ≤ 9223372036854775806) (hp : p.length ≤ 9223372036854775806) : ∀ (rest pre : List ID), p = pre ++ rest → iter (braidref09_All_L0 l p) (pre.length : Int) = some (if rest.all (fun x => decide (x ∈ l)) then .inr () else .inl false)
  | [], pre, e => by
    refine iter_l ?_
    subst e
    unfold braidref09_All_L0
    simp
  | c :: rest, pre, e => by
    have hlen : pre.length < p.length := by rw [e]; simp
    have hget : p[pre.length]'hlen = c := by subst e; simp
    obtain ⟨k, k1, k2⟩ := at_neg l c hl
    have hF : braidref09_All_L0 l p (pre.length : Int) = if decide (c ∈ l) then some (.inr ((pre.length + 1 : Nat) : Int)) else some (.inl (.inl false)) := by
      unfold braidref09_All_L0
      rw [if_pos (by simpa using hlen), idx_nat hlen, hget, w64_nat (by omega)]
      simp only [bS]
      rw [k1]
      simp only [bS]
      rw [k2]
      cases decide (c ∈ l) <;> rfl
    cases hc : decide (c ∈ l) with
    | false => rw [hc] at hF; rw [iter_l hF, List.all_cons, hc]; rfl
    | true =>
      rw [hc] at hF
      rw [iter_r hF]
      have ih := all_from l p hl hp rest (pre ++ [c]) (by simp [e])
      simp only [List.length_append, List.length_cons, List.length_nil, Nat.zero_add] at ih
      rw [ih, List.all_cons, hc, Bool.true_and]
theorem all_eq (l p : List ID) (hl : l.length ≤ 9223372036854775806) (hp : p.length ≤ 9223372036854775806) : braidref09_All l p = some (p.all fun x => decide (x ∈ l)) := by
  have h := all_from l p hl hp p [] rfl
  unfold braidref09_All
  rw [show (0 : Int) = (([] : List ID).length : Int) from rfl, h]
  cases p.all fun x => decide (x ∈ l) <;> rfl
theorem shape_L0 (g : api_Graph) (hl : g.IDs.length ≤ 9223372036854775807) : orRet (ρ := Int) (iter (dag_shape_L0 g) 1) = fun k => if incr g.IDs then k () else some 32 := by
  have key : ∀ (n i : Nat), g.IDs.length - i = n → 1 ≤ i → i ≤ g.IDs.length → iter (dag_shape_L0 g) (i : Int) = some (if incr (g.IDs.drop (i - 1)) then .inr () else .inl 32) := by
    intro n
    induction n with
    | zero =>
      intro i hn h1 hi
      have h := rising_from g.IDs hl 0 i hn h1 hi
      have e : g.IDs.drop (i - 1) = [g.IDs[i - 1]'(by omega)] := by
        rw [List.drop_eq_getElem_cons (by omega), List.drop_eq_nil_of_le (by omega)]
      rw [e]
      refine iter_l ?_
      unfold dag_shape_L0
      rw [if_neg (by simp; omega)]
      simp [incr]
    | succ n ih =>
      intro i hn h1 hi
      have hlt : i < g.IDs.length := by omega
      have e : g.IDs.drop (i - 1) = g.IDs[i - 1] :: g.IDs[i] :: g.IDs.drop (i + 1) := by
        rw [List.drop_eq_getElem_cons (by omega), show i - 1 + 1 = i by omega, List.drop_eq_getElem_cons hlt]
      have e' : g.IDs.drop (i + 1 - 1) = g.IDs[i] :: g.IDs.drop (i + 1) := by rw [Nat.add_sub_cancel, List.drop_eq_getElem_cons hlt]
      have hF : dag_shape_L0 g (i : Int) = if decide (0 ≤ Lib.compareBytes (g.IDs[i - 1]).toList (g.IDs[i]).toList) then some (.inl (.inl 32)) else some (.inr ((i + 1 : Nat) : Int)) := by
        unfold dag_shape_L0
        rw [if_pos (by simp; omega), w64_eq (by omega) (by omega), show ((i : Int) - 1) = ((i - 1 : Nat) : Int) by omega]
        simp only [idx_nat hlt, idx_nat (show i - 1 < g.IDs.length by omega), bs, cmp_eq7, w64_nat (show i < 9223372036854775807 by omega)]
      rw [e, incr]
      cases hc : decide (0 ≤ Lib.compareBytes (g.IDs[i - 1]).toList (g.IDs[i]).toList) with
      | true => rw [hc] at hF; rw [iter_l hF]; rfl
      | false =>
        rw [hc] at hF
        rw [iter_r hF, ih (i + 1) (by omega) (by omega) (by omega), e']; simp
  funext k
  by_cases h0 : g.IDs.length = 0
  · have hnil : g.IDs = [] := List.length_eq_zero_iff.1 h0
    rw [iter_l (b := .inr ())]
    · rw [hnil]; rfl
    · unfold dag_shape_L0
      rw [if_neg (by simp; omega)]
  · rw [show (1 : Int) = ((1 : Nat) : Int) from rfl, key (g.IDs.length - 1) 1 rfl (by omega) (by omega), Nat.sub_self, List.drop_zero]
    cases incr g.IDs <;> rfl
end Go.Proofs.YtjnheeekdadcpaaGreatDoor
namespace Go.Proofs.YtjnheeekdadcpaaGreatDoor
open Go
set_option linter.unusedSimpArgs false
set_option linter.unusedVariables false
def il (l : List Nat) : List Int := l.map fun k : Nat => (k : Int)
theorem il_len (l : List Nat) : (il l).length = l.length := by simp [il]
theorem il_idx {l : List Nat} {i : Nat} (h : i < l.length) : idx (il l) (i : Int) = some (l[i] : Int) := by
  rw [idx_nat (by rw [il_len]; exact h)]; simp [il]
theorem il_app (l m : List Nat) : il (l ++ m) = il l ++ il m := by simp [il]
def tab {α : Type} (n : Nat) (f : Nat → α) : List α := (List.range n).map f
theorem tab_len {α : Type} (n : Nat) (f : Nat → α) : (tab n f).length = n := by simp [tab]
theorem tab_get {α : Type} {n : Nat} {f : Nat → α} {i : Nat} (h : i < (tab n f).length) : (tab n f)[i] = f i := by simp [tab]
theorem tab_idx {α : Type} {n : Nat} {f : Nat → α} {i : Nat} (h : i < n) : idx (tab n f) (i : Int) = some (f i) := by
  rw [idx_nat (by rw [tab_len]; exact h), tab_get]
theorem tab_set {α : Type} {n : Nat} {f g : Nat → α} {i : Nat} {x : α} (hi : i < n) (h1 : g i = x) (h2 : ∀ j, j < n → j ≠ i → g j = f j) : (tab n f).set i x = tab n g := by
  apply List.ext_getElem
  · simp [tab_len]
  · intro j hj1 hj2
    rw [List.getElem_set, tab_get, tab_get]
    rw [tab_len] at hj2
    split
    · rename_i e; subst e; exact h1.symm
    · rename_i e; exact (h2 j hj2 (fun c => e c.symm)).symm
theorem tab_congr {α : Type} {n : Nat} {f g : Nat → α} (h : ∀ j, j < n → f j = g j) : tab n f = tab n g := by
  unfold tab
  exact List.map_congr_left fun j hj => h j (by simpa using hj)
theorem tab_const {α : Type} (n : Nat) (x : α) : List.replicate n x = tab n (fun _ => x) := by
  apply List.ext_getElem
  · simp [tab]
  · intro j h1 h2; simp [tab]
def opAt (g : api_Graph) (i : Nat) : List ID := match g.Ops[i]? with | some o => o.Preds | none => []
theorem opAt_get {g : api_Graph} {i : Nat} (h : i < g.Ops.length) : opAt g i = (g.Ops[i]).Preds := by unfold opAt; rw [List.getElem?_eq_getElem h]
def preds (g : api_Graph) (i : Nat) : List Nat := (opAt g i).map fun x => g.IDs.idxOf x
structure GoodE (g : api_Graph) : Prop where
  len : g.Ops.length ≤ 60
  ids : g.IDs.length = g.Ops.length
  ri : incr g.IDs = true
  op : ∀ i (h : i < g.Ops.length), (g.Ops[i]).Preds.length ≤ 4 ∧ incr (g.Ops[i]).Preds = true
variable {g : api_Graph}
theorem GoodE.four (E : GoodE g) (i : Nat) : (opAt g i).length ≤ 4 := by
  unfold opAt
  by_cases h : i < g.Ops.length
  · rw [List.getElem?_eq_getElem h]; exact (E.op i h).1
  · rw [List.getElem?_eq_none (by omega)]; simp
theorem GoodE.nodup (E : GoodE g) (i : Nat) : (opAt g i).Nodup := by
  unfold opAt
  by_cases h : i < g.Ops.length
  · rw [List.getElem?_eq_getElem h]; exact incr_nodup (E.op i h).2
  · rw [List.getElem?_eq_none (by omega)]; simp
theorem idxOf_inj {l : List ID} {x y : ID} (hx : x ∈ l) (h : l.idxOf y = l.idxOf x) : y = x := by
  have h1 : l.idxOf x < l.length := List.idxOf_lt_length_of_mem hx
  have h2 : l.idxOf y < l.length := by omega
  have e1 : l[l.idxOf x]'h1 = x := by simp
  have e2 : l[l.idxOf y]'h2 = y := by simp
  rw [← e1, ← e2]; congr 1
def succs (g : api_Graph) (i x : Nat) : List Nat := (List.range i).filter fun k => decide (x ∈ preds g k)
theorem succs_len (g : api_Graph) (i x : Nat) : (succs g i x).length ≤ i := by
  have := List.length_filter_le (fun k => decide (x ∈ preds g k)) (List.range i)
  unfold succs; simpa using this
def succJ (g : api_Graph) (i j x : Nat) : List Nat := succs g i x ++ (if x ∈ (preds g i).take j then [i] else [])
theorem succs_next (g : api_Graph) (i x : Nat) : succs g (i + 1) x = succJ g i (preds g i).length x := by
  unfold succs succJ
  rw [List.range_succ, List.filter_append, List.take_length]
  by_cases h : x ∈ preds g i
  · rw [if_pos h]; simp [succs, h]
  · rw [if_neg h]; simp [succs, h]
theorem succJ_zero (g : api_Graph) (i x : Nat) : succJ g i 0 x = succs g i x := by unfold succJ; simp
theorem L4_run (E : GoodE g) {i : Nat} (hi : i < g.Ops.length) (s : (List Int) × (List (List Int)) × (List Int) × Int) (hs : s.2.2.2 = (i : Int)) : ∀ (rest pre : List ID), g.Ops[i].Preds = pre ++ rest →
    iter (dag_shape_L4 g s g.Ops[i]) (tab g.Ops.length (fun x => il (succJ g i pre.length x)), (pre.length : Int)) = some (if rest.all (fun x => decide (x ∈ g.IDs)) then .inr (tab g.Ops.length fun x => il (succJ g i (preds g i).length x)) else .inl (.inl (.inl 40)))
  | [], pre, e => by
    refine iter_l ?_
    unfold dag_shape_L4
    have : (preds g i).length = pre.length := by unfold preds; rw [opAt_get hi, e]; simp
    rw [if_neg (by rw [e]; simp), this]
    rfl
  | c :: rest, pre, e => by
    have h4 := (E.op i hi).1
    have hn := E.nodup i
    rw [opAt_get hi] at hn
    have hlen : pre.length < g.Ops[i].Preds.length := by rw [e]; simp
    have hget : g.Ops[i].Preds[pre.length]'hlen = c := by simp [e]
    have hpl : (preds g i).length = g.Ops[i].Preds.length := by unfold preds; rw [opAt_get hi]; simp
    have hpg : (preds g i)[pre.length]'(by omega) = g.IDs.idxOf c := by
      unfold preds
      simp only [opAt_get hi, List.getElem_map, hget]
    obtain ⟨k, f1, f2, f3⟩ := dag_find_eq g (by have := E.ids; have := E.len; omega) E.ri c
    rw [List.all_cons]
    by_cases hc : c ∈ g.IDs
    · rw [decide_eq_true hc, Bool.true_and]
      obtain ⟨rfl, hk⟩ := f2 hc
      rw [E.ids] at hk
      have hsl := succs_len g i (g.IDs.idxOf c)
      have hll : (succJ g i pre.length (g.IDs.idxOf c)).length ≤ i + 1 := by
        unfold succJ; rw [List.length_append]; split <;> simp <;> omega
      have hset : (tab g.Ops.length (fun x => il (succJ g i pre.length x))).set (g.IDs.idxOf c) (il (succJ g i pre.length (g.IDs.idxOf c)) ++ [(i : Int)]) = tab g.Ops.length (fun x => il (succJ g i (pre.length + 1) x)) := by
        refine tab_set hk ?_ fun x hx hne => ?_
        · have h1 : ¬ g.IDs.idxOf c ∈ (preds g i).take pre.length := by
            intro hm
            have e5 : (preds g i).take pre.length = pre.map fun x => g.IDs.idxOf x := by
              unfold preds
              rw [opAt_get hi, e, List.map_append, List.take_left' (by simp)]
            rw [e5, List.mem_map] at hm
            obtain ⟨y, hy, e6⟩ := hm
            have := idxOf_inj hc e6
            subst this
            rw [e, List.nodup_append] at hn
            exact hn.2.2 y hy y (by simp) rfl
          have h2 : g.IDs.idxOf c ∈ (preds g i).take (pre.length + 1) := by
            rw [List.take_add_one, List.getElem?_eq_getElem (by omega), hpg]; simp
          unfold succJ
          rw [if_pos h2, if_neg h1]; simp [il]
        · have : (x ∈ (preds g i).take (pre.length + 1)) ↔ (x ∈ (preds g i).take pre.length) := by
            rw [List.take_add_one, List.getElem?_eq_getElem (by omega), hpg]
            simp [hne]
          unfold succJ
          simp only [this]
      have hF : dag_shape_L4 g s g.Ops[i] (tab g.Ops.length (fun x => il (succJ g i pre.length x)), (pre.length : Int)) = some (.inr (tab g.Ops.length (fun x => il (succJ g i (pre.length + 1) x)), ((pre.length + 1 : Nat) : Int))) := by
        have hlen2 := E.len
        unfold dag_shape_L4
        rw [if_pos (by simpa using hlen)]
        simp only []
        rw [idx_nat hlen, hget]
        simp only [bS]
        rw [f1]
        simp only [bS]
        rw [decide_eq_true hc, if_neg (by simp), tab_idx hk]
        simp only [bS]
        rw [hs, app_eq (by rw [il_len]; simp; omega), w64_nat (by omega)]
        simp only [bS, Int.toNat_natCast]
        rw [hset]
      rw [iter_r hF]
      have ih := L4_run E hi s hs rest (pre ++ [c]) (by simp [e])
      simp only [List.length_append, List.length_cons, List.length_nil, Nat.zero_add] at ih
      exact ih
    · rw [decide_eq_false hc]
      refine iter_l ?_
      unfold dag_shape_L4
      rw [if_pos (by simpa using hlen)]
      simp only []
      rw [idx_nat hlen, hget]
      simp only [bS]
      rw [f1]
      simp only [bS]
      rw [decide_eq_false hc]; rfl
def allIn (g : api_Graph) : Bool := g.Ops.all fun o => o.Preds.all fun x => decide (x ∈ g.IDs)
def indeg (g : api_Graph) (i x : Nat) : Int := if x < i then ((preds g x).length : Int) else 0
def ready (g : api_Graph) (i : Nat) : List Nat := (List.range i).filter fun k => decide ((preds g k).length = 0)
theorem ready_len (g : api_Graph) (i : Nat) : (ready g i).length ≤ i := by
  have := List.length_filter_le (fun k => decide ((preds g k).length = 0)) (List.range i)
  unfold ready; simpa using this
theorem L2_run (E : GoodE g) : ∀ (rest pre : List api_Op), g.Ops = pre ++ rest →
    iter (dag_shape_L2 g) (tab g.Ops.length (indeg g pre.length), tab g.Ops.length (fun x => il (succs g pre.length x)), il (ready g pre.length), (pre.length : Int)) =
      some (if rest.all (fun o => o.Preds.all fun x => decide (x ∈ g.IDs)) then .inr (tab g.Ops.length (indeg g g.Ops.length), tab g.Ops.length (fun x => il (succs g g.Ops.length x)), il (ready g g.Ops.length)) else .inl 40)
  | [], pre, e => by
    refine iter_l ?_
    have hl : g.Ops.length = pre.length := by rw [e]; simp
    unfold dag_shape_L2
    rw [if_neg (by simp; omega), hl]
    rfl
  | o :: rest, pre, e => by
    have hlen2 := E.len
    have hlen : pre.length < g.Ops.length := by rw [e]; simp
    have hget : g.Ops[pre.length]'hlen = o := by simp [e]
    have h4 := L4_run E hlen (tab g.Ops.length (indeg g pre.length), tab g.Ops.length (fun x => il (succs g pre.length x)), il (ready g pre.length), (pre.length : Int)) rfl o.Preds [] (by rw [hget]; rfl)
    rw [hget] at h4
    simp only [List.length_nil, succJ_zero] at h4
    have hpl : (preds g pre.length).length = o.Preds.length := by unfold preds; rw [opAt_get hlen, hget]; simp
    rw [List.all_cons]
    cases hc : o.Preds.all fun x => decide (x ∈ g.IDs) with
    | false =>
      rw [hc] at h4
      refine iter_l ?_
      unfold dag_shape_L2
      rw [if_pos (by simpa using hlen)]
      simp only []
      rw [idx_nat hlen, hget]
      simp only [bS]
      rw [show (0 : Int) = ((0 : Nat) : Int) from rfl, h4]
      rfl
    | true =>
      rw [hc] at h4
      rw [Bool.true_and]
      have hset : (tab g.Ops.length (indeg g pre.length)).set pre.length (o.Preds.length : Int) = tab g.Ops.length (indeg g (pre.length + 1)) := by
        refine tab_set hlen ?_ fun x hx hne => ?_
        · unfold indeg; rw [if_pos (by omega), hpl]
        · unfold indeg
          by_cases h : x < pre.length
          · rw [if_pos h, if_pos (by omega)]
          · rw [if_neg h, if_neg (by omega)]
      have hrl := ready_len g pre.length
      have hready : il (ready g (pre.length + 1)) = if (o.Preds.length : Int) == 0 then il (ready g pre.length) ++ [(pre.length : Int)] else il (ready g pre.length) := by
        unfold ready
        rw [List.range_succ, List.filter_append, il_app]
        by_cases h : o.Preds.length = 0
        · have hd : decide ((preds g pre.length).length = 0) = true := decide_eq_true (by rw [hpl]; exact h)
          rw [if_pos (by simpa using h), List.filter_cons_of_pos (p := fun k => decide ((preds g k).length = 0)) hd]; rfl
        · have hd : ¬ decide ((preds g pre.length).length = 0) = true := by rw [decide_eq_true_iff, hpl]; exact h
          rw [if_neg (by simpa using h), List.filter_cons_of_neg (p := fun k => decide ((preds g k).length = 0)) hd]; simp [il]
      have hsucc : (fun x => il (succJ g pre.length (preds g pre.length).length x)) = fun x => il (succs g (pre.length + 1) x) := by
        funext x; rw [succs_next]
      rw [hsucc] at h4
      have hF : dag_shape_L2 g (tab g.Ops.length (indeg g pre.length), tab g.Ops.length (fun x => il (succs g pre.length x)), il (ready g pre.length), (pre.length : Int)) = some (.inr (tab g.Ops.length (indeg g (pre.length + 1)), tab g.Ops.length (fun x => il (succs g (pre.length + 1) x)), il (ready g (pre.length + 1)), ((pre.length + 1 : Nat) : Int))) := by
        unfold dag_shape_L2
        rw [if_pos (by simpa using hlen)]
        simp only []
        rw [idx_nat hlen, hget]
        simp only [bS]
        rw [show (0 : Int) = ((0 : Nat) : Int) from rfl, h4]
        simp only [if_true, or_r]
        rw [tab_idx hlen]
        simp only [bS, Int.toNat_natCast]
        rw [hset, tab_idx hlen]
        simp only [bS]
        have e5 : indeg g (pre.length + 1) pre.length = (o.Preds.length : Int) := by unfold indeg; rw [if_pos (by omega), hpl]
        rw [e5, hready, w64_nat (by omega)]
        by_cases h : o.Preds.length = 0
        · rw [if_pos (by simpa using h), if_pos (by simpa using h), app_eq (by rw [il_len]; simp; omega)]
          simp only [bS]
        · rw [if_neg (by simpa using h), if_neg (by simpa using h)]
      rw [iter_r hF]
      have ih := L2_run E rest (pre ++ [o]) (by simp [e])
      simp only [List.length_append, List.length_cons, List.length_nil, Nat.zero_add] at ih
      exact ih
theorem refAll_run (E : GoodE g) : ∀ (rest pre : List api_Op), g.Ops = pre ++ rest →
    iter (braidref09_shape_L0 g) (pre.length : Int) = some (if rest.all (fun o => o.Preds.all fun x => decide (x ∈ g.IDs)) then .inr () else .inl 40)
  | [], pre, e => by
    refine iter_l ?_
    unfold braidref09_shape_L0
    rw [if_neg (by rw [e]; simp)]; rfl
  | o :: rest, pre, e => by
    have hlen2 := E.len
    have hlen : pre.length < g.Ops.length := by rw [e]; simp
    have hget : g.Ops[pre.length]'hlen = o := by simp [e]
    have h4 := (E.op _ hlen).1
    rw [hget] at h4
    have hF : braidref09_shape_L0 g (pre.length : Int) = if (o.Preds.all fun x => decide (x ∈ g.IDs)) then some (.inr ((pre.length + 1 : Nat) : Int)) else some (.inl (.inl 40)) := by
      unfold braidref09_shape_L0
      rw [if_pos (by simpa using hlen), idx_nat hlen, hget]
      simp only [bS]
      rw [all_eq _ _ (by have := E.ids; omega) (by omega), w64_nat (by omega)]
      simp only [bS]
      cases o.Preds.all fun x => decide (x ∈ g.IDs) <;> rfl
    rw [List.all_cons]
    cases hc : o.Preds.all fun x => decide (x ∈ g.IDs) with
    | false => rw [hc] at hF; rw [iter_l hF]; rfl
    | true =>
      rw [hc] at hF
      rw [iter_r hF]
      have ih := refAll_run E rest (pre ++ [o]) (by simp [e])
      simp only [List.length_append, List.length_cons, List.length_nil, Nat.zero_add] at ih
      rw [ih, Bool.true_and]
end Go.Proofs.YtjnheeekdadcpaaGreatDoor
namespace Go.Proofs.YtjnheeekdadcpaaGreatDoor
open Go
set_option linter.unusedSimpArgs false
set_option linter.unusedVariables false
theorem nodup_inj {α : Type} {l : List α} (h : l.Nodup) {i j : Nat} (hi : i < l.length) (hj : j < l.length) (e : l[i] = l[j]) : i = j := by
  rcases Nat.lt_trichotomy i j with c | c | c
  · exact absurd e (List.pairwise_iff_getElem.1 h i j hi hj c)
  · exact c
  · exact absurd e.symm (List.pairwise_iff_getElem.1 h j i hj hi c)
inductive Wf (P : Nat → List Nat) : Nat → Prop
  | mk (i : Nat) : (∀ p ∈ P i, Wf P p) → Wf P i
theorem Wf.inv {P : Nat → List Nat} {i : Nat} (h : Wf P i) : ∀ p ∈ P i, Wf P p := by cases h; assumption
def cnt (P : Nat → List Nat) (T : List Nat) (i : Nat) : Int := (((P i).filter fun p => !decide (p ∈ T)).length : Int)
theorem cnt_zero {P : Nat → List Nat} {T : List Nat} {i : Nat} : cnt P T i = 0 ↔ ∀ p ∈ P i, p ∈ T := by
  unfold cnt
  constructor
  · intro h p hp
    have h0 : ((P i).filter fun p => !decide (p ∈ T)) = [] := List.length_eq_zero_iff.1 (by omega)
    rw [List.filter_eq_nil_iff] at h0
    simpa using h0 p hp
  · intro h
    have h0 : ((P i).filter fun p => !decide (p ∈ T)) = [] := by
      rw [List.filter_eq_nil_iff]
      intro p hp
      simpa using h p hp
    rw [h0]; rfl
theorem cnt_nil (P : Nat → List Nat) (i : Nat) : cnt P [] i = ((P i).length : Int) := by
  unfold cnt
  rw [List.filter_eq_self.2 (fun a _ => by simp)]
theorem cnt_le (P : Nat → List Nat) (T : List Nat) (i : Nat) : cnt P T i ≤ ((P i).length : Int) := by
  unfold cnt
  have := List.length_filter_le (fun p => !decide (p ∈ T)) (P i)
  omega
theorem filter_snoc {T : List Nat} {x : Nat} (hx : x ∉ T) : ∀ l : List Nat, l.Nodup → (l.filter fun p => !decide (p ∈ T)).length = (l.filter fun p => !decide (p ∈ T ++ [x])).length + (if x ∈ l then 1 else 0)
  | [], _ => by simp
  | a :: l, h => by
    have hn := List.nodup_cons.1 h
    have ih := filter_snoc hx l hn.2
    by_cases ha : a = x
    · subst ha
      rw [if_neg hn.1] at ih
      rw [if_pos (by simp), List.filter_cons_of_pos (by simpa using hx), List.filter_cons_of_neg (by simp), List.length_cons, ih]
    · have e : (x ∈ a :: l) ↔ (x ∈ l) := by
        rw [List.mem_cons]; exact ⟨fun h => h.resolve_left fun e => ha e.symm, .inr⟩
      by_cases hT : a ∈ T
      · rw [List.filter_cons_of_neg (by simp [hT]), List.filter_cons_of_neg (by simp [hT]), ih]
        simp only [e]
      · rw [List.filter_cons_of_pos (by simp [hT]), List.filter_cons_of_pos (by simp [hT, ha]), List.length_cons, List.length_cons, ih]
        simp only [e]; omega
theorem cnt_in {P : Nat → List Nat} {T : List Nat} {x i : Nat} (hx : x ∉ T) (hn : (P i).Nodup) (hi : x ∈ P i) : cnt P T i = cnt P (T ++ [x]) i + 1 := by
  unfold cnt
  rw [filter_snoc hx _ hn, if_pos hi]; omega
theorem cnt_out {P : Nat → List Nat} {T : List Nat} {x i : Nat} (hx : x ∉ T) (hn : (P i).Nodup) (hi : x ∉ P i) : cnt P T i = cnt P (T ++ [x]) i := by
  unfold cnt
  rw [filter_snoc hx _ hn, if_neg hi]; omega
structure GoodP (P : Nat → List Nat) (n : Nat) : Prop where
  n60 : n ≤ 60
  nodup : ∀ i, (P i).Nodup
  four : ∀ i, (P i).length ≤ 4
  lt : ∀ i, ∀ p ∈ P i, p < n
def over (P : Nat → List Nat) (n x : Nat) : List Nat := (List.range n).filter fun k => decide (x ∈ P k)
theorem over_mem {P : Nat → List Nat} {n x k : Nat} : k ∈ over P n x ↔ k < n ∧ x ∈ P k := by unfold over; simp
theorem over_nodup (P : Nat → List Nat) (n x : Nat) : (over P n x).Nodup := List.Pairwise.filter _ List.nodup_range
structure Got (P : Nat → List Nat) (n : Nat) (Q : List Nat) : Prop where
  nodup : Q.Nodup
  lt : ∀ x ∈ Q, x < n
  wf : ∀ x ∈ Q, Wf P x
theorem Got.len {P : Nat → List Nat} {n : Nat} {Q : List Nat} (h : Got P n Q) : Q.length ≤ n := by
  have := nodup_le Q (List.range n) h.nodup fun x hx => by simpa using h.lt x hx
  simpa using this
variable {P : Nat → List Nat} {n : Nat}
theorem L8_run (E : GoodP P n) (Q : List Nat) (pos : Nat) (hp : pos < Q.length) (hQ : Got P n Q) (hd : ∀ i, i < n → (i ∈ Q ↔ cnt P (Q.take pos) i = 0)) :
    ∃ b : List Int × List Int, iter (dag_shape_L8 (il (over P n Q[pos]))) (tab n (cnt P (Q.take pos)), il Q, 0) = some b ∧ ∃ R, b = (tab n (cnt P ((Q ++ R).take (pos + 1))), il (Q ++ R)) ∧ Got P n (Q ++ R) ∧ ∀ i, i < n → (i ∈ Q ++ R ↔ cnt P ((Q ++ R).take (pos + 1)) i = 0) := by
  have hx : Q[pos] ∉ Q.take pos := by
    intro hm
    obtain ⟨j, hj, e⟩ := List.getElem_of_mem hm
    rw [List.getElem_take] at e
    rw [List.length_take] at hj
    have := nodup_inj hQ.nodup _ _ e
    omega
  have htk : ∀ R : List Nat, (Q ++ R).take (pos + 1) = Q.take pos ++ [Q[pos]] := fun R => by
    rw [List.take_append_of_le_length (by omega), List.take_add_one, List.getElem?_eq_getElem hp]; rfl
  let T := Q.take pos
  let x := Q[pos]
  have hwx : Wf P x := hQ.wf x (List.getElem_mem hp)
  have hwT : ∀ y ∈ T, Wf P y := fun y hy => hQ.wf y (List.mem_of_mem_take hy)
  let c := fun (j i : Nat) => if i ∈ (over P n x).take j then cnt P (T ++ [x]) i else cnt P T i
  have hc_in : ∀ j i, i ∈ (over P n x).take j → c j i = cnt P (T ++ [x]) i := fun j i h => if_pos h
  have hc_out : ∀ j i, i ∉ (over P n x).take j → c j i = cnt P T i := fun j i h => if_neg h
  have hcnt2 : ∀ i, cnt P (T ++ [x]) i = 0 → Wf P i := fun i hi => .mk i fun p hpi => by
    have := cnt_zero.1 hi p hpi
    rcases List.mem_append.1 this with h | h
    · exact hwT p h
    · rw [List.mem_singleton] at h; subst h; exact hwx
  have main := iter_up (F := dag_shape_L8 (il (over P n x))) (over P n x).length
    (fun j st => ∃ R, st = (tab n (c j), il (Q ++ R), (j : Int)) ∧ Got P n (Q ++ R) ∧ ∀ i, i < n → (i ∈ Q ++ R ↔ c j i = 0))
    (fun b => ∃ R, b = (tab n (c (over P n x).length), il (Q ++ R)) ∧ Got P n (Q ++ R) ∧ ∀ i, i < n → (i ∈ Q ++ R ↔ c (over P n x).length i = 0))
    (fun j st hj hst => by
      obtain ⟨R, rfl, hR, hm⟩ := hst
      have hyo : (over P n x)[j] ∈ over P n x := List.getElem_mem hj
      obtain ⟨hyn, hyx⟩ := over_mem.1 hyo
      have hyt : (over P n x)[j] ∉ (over P n x).take j := by
        intro hm
        obtain ⟨k, hk, e⟩ := List.getElem_of_mem hm
        rw [List.getElem_take] at e
        rw [List.length_take] at hk
        have := nodup_inj (over_nodup P n x) _ _ e
        omega
      have hcy : c j (over P n x)[j] = cnt P (T ++ [x]) (over P n x)[j] + 1 := by
        rw [hc_out _ _ hyt]; exact cnt_in hx (E.nodup _) hyx
      have hcl : cnt P T (over P n x)[j] ≤ 4 := by have := cnt_le P T (over P n x)[j]; have := E.four (over P n x)[j]; omega
      have h0 : 0 ≤ cnt P (T ++ [x]) (over P n x)[j] := by unfold cnt; omega
      have hcs : cnt P T (over P n x)[j] = cnt P (T ++ [x]) (over P n x)[j] + 1 := cnt_in hx (E.nodup _) hyx
      have hnot : (over P n x)[j] ∉ Q ++ R := by
        rw [hm _ hyn, hcy]; omega
      have hcy1 : c (j + 1) (over P n x)[j] = cnt P (T ++ [x]) (over P n x)[j] := by
        refine hc_in _ _ ?_
        rw [List.take_add_one, List.getElem?_eq_getElem hj]
        exact List.mem_append.2 (.inr (List.mem_singleton.2 rfl))
      have hc1 : ∀ i, i ≠ (over P n x)[j] → c (j + 1) i = c j i := fun i hne => by
        show (if _ then _ else _) = (if _ then _ else _)
        have : (i ∈ (over P n x).take (j + 1)) ↔ (i ∈ (over P n x).take j) := by
          rw [List.take_add_one, List.getElem?_eq_getElem hj, List.mem_append]
          exact ⟨fun h => h.resolve_right fun e => hne (List.mem_singleton.1 e), .inl⟩
        simp only [this]
      have hset : (tab n (c j)).set (over P n x)[j] (cnt P (T ++ [x]) (over P n x)[j]) = tab n (c (j + 1)) := tab_set hyn hcy1 fun i _ hne => hc1 i hne
      have hov : (over P n x).length ≤ n := by
        have := List.length_filter_le (fun k => decide (x ∈ P k)) (List.range n)
        unfold over; simpa using this
      have hn60 := E.n60
      have hlen := hR.len
      have hF : dag_shape_L8 (il (over P n x)) (tab n (c j), il (Q ++ R), (j : Int)) = if cnt P (T ++ [x]) (over P n x)[j] == 0 then some (.inr (tab n (c (j + 1)), il (Q ++ R) ++ [((over P n x)[j] : Int)], ((j + 1 : Nat) : Int))) else some (.inr (tab n (c (j + 1)), il (Q ++ R), ((j + 1 : Nat) : Int))) := by
        unfold dag_shape_L8
        rw [if_pos (by rw [il_len]; simpa using hj)]
        simp only []
        rw [il_idx hj]
        simp only [bS]
        rw [tab_idx hyn, hcy]
        simp only [bS]
        rw [w64_eq (x := _ - 1) (by omega) (by omega), show cnt P (T ++ [x]) (over P n x)[j] + 1 - 1 = cnt P (T ++ [x]) (over P n x)[j] by omega]
        simp only [bS, Int.toNat_natCast]
        rw [hset, tab_idx hyn, hcy1]
        simp only [bS]
        rw [app_eq (by rw [il_len]; simp only [List.length_cons, List.length_nil]; omega), w64_nat (by omega)]
        simp only [bS]
      by_cases hz : cnt P (T ++ [x]) (over P n x)[j] = 0
      · rw [if_pos (by simpa using hz)] at hF
        refine ⟨_, hF, R ++ [(over P n x)[j]], ?_, ?_, ?_⟩
        · rw [← List.append_assoc, il_app (Q ++ R)]; rfl
        · rw [← List.append_assoc]
          refine ⟨?_, ?_, ?_⟩
          · rw [List.nodup_append]
            exact ⟨hR.nodup, by simp, fun a ha b hb e => by
              rw [List.mem_singleton] at hb; subst hb; exact hnot (e ▸ ha)⟩
          · intro y hy
            rcases List.mem_append.1 hy with h | h
            · exact hR.lt y h
            · rw [List.mem_singleton] at h; subst h; exact hyn
          · intro y hy
            rcases List.mem_append.1 hy with h | h
            · exact hR.wf y h
            · rw [List.mem_singleton] at h; subst h; exact hcnt2 _ hz
        · intro i hi
          rw [← List.append_assoc, List.mem_append, List.mem_singleton]
          by_cases hne : i = (over P n x)[j]
          · subst hne
            rw [hcy1]
            exact ⟨fun _ => hz, fun _ => .inr rfl⟩
          · rw [hc1 i hne, ← hm i hi]
            exact ⟨fun h => h.resolve_right hne, .inl⟩
      · rw [if_neg (by simpa using hz)] at hF
        refine ⟨_, hF, R, rfl, hR, ?_⟩
        intro i hi
        by_cases hne : i = (over P n x)[j]
        · subst hne
          rw [hcy1]
          exact ⟨fun h => absurd h hnot, fun h => absurd h hz⟩
        · rw [hc1 i hne, ← hm i hi])
    (fun st hst => by
      obtain ⟨R, rfl, hR, hm⟩ := hst
      refine ⟨_, ?_, R, rfl, hR, hm⟩
      unfold dag_shape_L8
      rw [if_neg (by rw [il_len]; simp)])
    (tab n (cnt P T), il Q, ((0 : Nat) : Int)) 0 (Nat.zero_le _) ⟨[], by rw [List.append_nil]; rfl, by rw [List.append_nil]; exact hQ, by rw [List.append_nil]; exact hd⟩
  have hend : ∀ i, i < n → c (over P n x).length i = cnt P (T ++ [x]) i := fun i hi => by
    by_cases hm : i ∈ over P n x
    · exact hc_in _ _ (by rw [List.take_length]; exact hm)
    · rw [hc_out _ _ (by rw [List.take_length]; exact hm)]
      exact cnt_out hx (E.nodup i) fun h => hm (over_mem.2 ⟨hi, h⟩)
  obtain ⟨b, h1, R, h2, h3, h4⟩ := main
  refine ⟨b, h1, R, ?_, h3, fun i hi => ?_⟩
  · rw [h2, htk R]
    congr 1
    exact tab_congr hend
  · rw [h4 i hi, hend i hi, htk R]
theorem L6_run (E : GoodP P n) (s : List Int × List (List Int) × List Int) (hs : s.2.1 = tab n fun x => il (over P n x)) : ∃ b : Int, iter (dag_shape_L6 s) (tab n (cnt P []), il ((List.range n).filter fun k => decide ((P k).length = 0)), 0) = some b ∧ ∃ Q : List Nat, b = (Q.length : Int) ∧ Q.Nodup ∧ ∀ i, i ∈ Q ↔ i < n ∧ Wf P i := by
  have hn60 := E.n60
  refine iter_inv (F := dag_shape_L6 s)
    (fun st => ∃ (Q : List Nat) (pos : Nat), st = (tab n (cnt P (Q.take pos)), il Q, (pos : Int)) ∧ pos ≤ Q.length ∧ Got P n Q ∧ ∀ i, i < n → (i ∈ Q ↔ cnt P (Q.take pos) i = 0))
    (fun st => n - st.2.2.toNat) _ ?_ _ ⟨(List.range n).filter fun k => decide ((P k).length = 0), 0, by rw [List.take_zero]; rfl, Nat.zero_le _, ?_, ?_⟩
  · rintro st ⟨Q, pos, rfl, h1, h2, h3⟩
    have hlen := h2.len
    by_cases hp : pos < Q.length
    · right
      obtain ⟨b, e1, R, rfl, e3, e4⟩ := L8_run E Q pos hp h2 h3
      have hx := h2.lt _ (List.getElem_mem hp)
      refine ⟨_, ?_, ⟨Q ++ R, pos + 1, rfl, by rw [List.length_append]; omega, e3, e4⟩, ?_⟩
      · unfold dag_shape_L6
        rw [if_pos (by rw [il_len]; simpa using hp)]
        simp only []
        rw [il_idx hp, hs]
        simp only [bS]
        rw [tab_idx hx]
        simp only [bS]
        rw [e1, w64_nat (by omega)]
        simp only [bS]
      · simp only [Int.toNat_natCast]; omega
    · left
      have hpe : pos = Q.length := by omega
      subst hpe
      refine ⟨(Q.length : Int), ?_, Q, rfl, h2.nodup, fun i => ⟨fun h => ⟨h2.lt i h, h2.wf i h⟩, fun h => ?_⟩⟩
      · unfold dag_shape_L6
        rw [if_neg (by rw [il_len]; simp)]
      · obtain ⟨hi, hw⟩ := h
        rw [List.take_length] at h3
        revert hi
        induction hw with
        | mk i hpi ih =>
          intro hi
          rw [h3 i hi, cnt_zero]
          exact fun p hpp => ih p hpp (E.lt i p hpp)
  · refine ⟨List.Pairwise.filter _ List.nodup_range, fun x hx => ?_, fun x hx => ?_⟩
    · simp only [List.mem_filter, List.mem_range] at hx; exact hx.1
    · simp only [List.mem_filter, List.mem_range, decide_eq_true_eq] at hx
      refine .mk x fun p hp => ?_
      rw [List.length_eq_zero_iff.1 hx.2] at hp; simp at hp
  · intro i hi
    rw [List.take_zero, cnt_nil]
    simp only [List.mem_filter, List.mem_range, decide_eq_true_eq]
    omega
end Go.Proofs.YtjnheeekdadcpaaGreatDoor
namespace Go.Proofs.YtjnheeekdadcpaaGreatDoor
open Go
set_option linter.unusedSimpArgs false
set_option linter.unusedVariables false
variable {g : api_Graph}
theorem allIn_at (h : allIn g = true) (i : Nat) : ∀ x ∈ opAt g i, x ∈ g.IDs := by
  unfold opAt
  by_cases hi : i < g.Ops.length
  · rw [List.getElem?_eq_getElem hi]
    unfold allIn at h
    rw [List.all_eq_true] at h
    have := h _ (List.getElem_mem hi)
    rw [List.all_eq_true] at this
    exact fun x hx => by simpa using this x hx
  · rw [List.getElem?_eq_none (by omega)]
    exact fun x hx => by simp at hx
theorem goodP (E : GoodE g) (h : allIn g = true) : GoodP (preds g) g.Ops.length := by
  refine ⟨E.len, fun i => ?_, fun i => ?_, fun i p hp => ?_⟩
  · unfold preds
    rw [List.Nodup, List.pairwise_map]
    exact (E.nodup i).imp_of_mem fun {a b} ha hb hne e => hne (idxOf_inj (allIn_at h i b hb) e)
  · unfold preds; rw [List.length_map]; exact E.four i
  · unfold preds at hp
    rw [List.mem_map] at hp
    obtain ⟨x, hx, rfl⟩ := hp
    rw [← E.ids]
    exact List.idxOf_lt_length_of_mem (allIn_at h i x hx)
def idAt (g : api_Graph) (i : Nat) : ID := match g.IDs[i]? with | some x => x | none => z32
theorem idAt_get {i : Nat} (h : i < g.IDs.length) : idAt g i = g.IDs[i] := by unfold idAt; rw [List.getElem?_eq_getElem h]
theorem idAt_idx {x : ID} (h : x ∈ g.IDs) : idAt g (g.IDs.idxOf x) = x := by
  rw [idAt_get (List.idxOf_lt_length_of_mem h)]; simp
theorem idx_idAt (E : GoodE g) {i : Nat} (h : i < g.Ops.length) : g.IDs.idxOf (idAt g i) = i := by
  have hi : i < g.IDs.length := by rw [E.ids]; exact h
  rw [idAt_get hi]; exact idxOf_at E.ri hi
theorem placed_iff (E : GoodE g) {Q : List Nat} (hQ : ∀ x ∈ Q, x < g.Ops.length) {x : ID} (hx : x ∈ g.IDs) : x ∈ Q.map (idAt g) ↔ g.IDs.idxOf x ∈ Q := by
  rw [List.mem_map]
  constructor
  · rintro ⟨q, hq, rfl⟩; rw [idx_idAt E (hQ q hq)]; exact hq
  · exact fun h => ⟨_, h, idAt_idx hx⟩
theorem all_placed (E : GoodE g) (h : allIn g = true) {Q : List Nat} (hQ : ∀ x ∈ Q, x < g.Ops.length) (i : Nat) : ((opAt g i).all fun x => decide (x ∈ Q.map (idAt g))) = decide (∀ p ∈ preds g i, p ∈ Q) := by
  rw [Bool.eq_iff_iff, List.all_eq_true, decide_eq_true_iff]
  unfold preds
  constructor
  · intro hx p hp
    rw [List.mem_map] at hp
    obtain ⟨x, hx', rfl⟩ := hp
    exact (placed_iff E hQ (allIn_at h i x hx')).1 (by simpa using hx x hx')
  · intro hp x hx
    rw [decide_eq_true_iff]
    exact (placed_iff E hQ (allIn_at h i x hx)).2 (hp _ (List.mem_map.2 ⟨x, hx, rfl⟩))
def Topo (P : Nat → List Nat) (Q : List Nat) : Prop := ∀ k (h : k < Q.length), ∀ p ∈ P Q[k], p ∈ Q.take k
theorem Topo.snoc {P : Nat → List Nat} {Q : List Nat} {i : Nat} (h : Topo P Q) (hi : ∀ p ∈ P i, p ∈ Q) : Topo P (Q ++ [i]) := by
  intro k hk p hp
  by_cases hkq : k < Q.length
  · rw [List.getElem_append_left hkq] at hp
    rw [List.take_append_of_le_length (by omega)]
    exact h k hkq p hp
  · have hk' : k = Q.length := by simp at hk; omega
    subst hk'
    rw [List.getElem_append_right (by omega)] at hp
    simp at hp
    rw [List.take_left' rfl]
    exact hi p hp
def ordSt (g : api_Graph) (Q : List Nat) (b : Bool) : (List Int) × (List ID) × (List Bool) × Bool := (il Q, Q.map (idAt g), tab g.Ops.length (fun i => decide (i ∈ Q)), b)
theorem ord_L2 (E : GoodE g) (h : allIn g = true) (Q : List Nat) (hQ : Got (preds g) g.Ops.length Q) (hT : Topo (preds g) Q) :
    ∃ b : Sum (List Int) ((List Int) × (List ID) × (List Bool) × Bool), iter (braidref09_Order_L2 g (ordSt g Q true)) 0 = some b ∧
      ((∃ i, b = .inr (ordSt g (Q ++ [i]) true) ∧ Got (preds g) g.Ops.length (Q ++ [i]) ∧ Topo (preds g) (Q ++ [i])) ∨ (b = .inr (ordSt g Q false) ∧ ∀ i, i < g.Ops.length → (∀ p ∈ preds g i, p ∈ Q) → i ∈ Q)) := by
  have hlen := E.len
  have hql := hQ.len
  refine iter_inv (F := braidref09_Order_L2 g (ordSt g Q true)) (fun s => ∃ i : Nat, s = (i : Int) ∧ i ≤ g.Ops.length ∧ ∀ k, k < i → (∀ p ∈ preds g k, p ∈ Q) → k ∈ Q) (fun s => g.Ops.length - s.toNat) _ ?_ _ ⟨0, rfl, Nat.zero_le _, fun k hk => by omega⟩
  rintro s ⟨i, rfl, h1, h2⟩
  by_cases hi : i < g.Ops.length
  · have hcond : (idx (tab g.Ops.length fun i => decide (i ∈ Q)) (i : Int) >>= fun x12 => if !x12 then idx g.Ops (i : Int) >>= fun x15 => braidref09_All (Q.map (idAt g)) x15.Preds >>= fun r17 => some r17 else some false) = some (!decide (i ∈ Q) && decide (∀ p ∈ preds g i, p ∈ Q)) := by
      rw [tab_idx hi]
      simp only [bS]
      by_cases hm : i ∈ Q
      · rw [decide_eq_true hm]; rfl
      · rw [decide_eq_false hm, if_pos (by simp), idx_nat hi]
        simp only [bS]
        have h4 := (E.op i hi).1
        rw [all_eq _ _ (by rw [List.length_map]; omega) (by omega)]
        simp only [bS]
        rw [← opAt_get hi, all_placed E h hQ.lt]; rfl
    by_cases hm : i ∈ Q
    · right
      refine ⟨((i + 1 : Nat) : Int), ?_, ⟨i + 1, rfl, hi, fun k hk hp => ?_⟩, by simp; omega⟩
      · unfold braidref09_Order_L2
        rw [if_pos (by simpa using hi)]
        show ((idx (tab g.Ops.length fun i => decide (i ∈ Q)) (i : Int) >>= fun x12 => if !x12 then idx g.Ops (i : Int) >>= fun x15 => braidref09_All (Q.map (idAt g)) x15.Preds >>= fun r17 => some r17 else some false) >>= _) = _
        rw [hcond, decide_eq_true hm, w64_nat (by omega)]
        rfl
      · by_cases hk' : k = i
        · subst hk'; exact hm
        · exact h2 k (by omega) hp
    · by_cases hp : ∀ p ∈ preds g i, p ∈ Q
      · left
        refine ⟨_, ?_, .inl ⟨i, rfl, ?_, hT.snoc hp⟩⟩
        · have hii : i < g.IDs.length := by rw [E.ids]; exact hi
          unfold braidref09_Order_L2
          rw [if_pos (by simpa using hi)]
          show ((idx (tab g.Ops.length fun i => decide (i ∈ Q)) (i : Int) >>= fun x12 => if !x12 then idx g.Ops (i : Int) >>= fun x15 => braidref09_All (Q.map (idAt g)) x15.Preds >>= fun r17 => some r17 else some false) >>= _) = _
          rw [hcond, decide_eq_false hm, decide_eq_true hp]
          simp only [bS]
          rw [if_pos (by simp), idx_nat hii]
          simp only [bS]
          rw [show (ordSt g Q true).1 = il Q from rfl, show (ordSt g Q true).2.1 = Q.map (idAt g) from rfl, show (ordSt g Q true).2.2.1 = tab g.Ops.length (fun i => decide (i ∈ Q)) from rfl]
          rw [app_eq (by rw [il_len]; simp only [List.length_cons, List.length_nil]; omega)]
          simp only [bS]
          rw [app_eq (by rw [List.length_map]; simp only [List.length_cons, List.length_nil]; omega), tab_idx hi]
          simp only [bS, Int.toNat_natCast]
          rw [tab_set (g := fun j => decide (j ∈ Q ++ [i])) hi (by simp) (fun j _ hj => by simp [hj])]
          unfold ordSt
          rw [il_app, List.map_append, ← idAt_get hii]
          rfl
        · refine ⟨?_, ?_, ?_⟩
          · rw [List.nodup_append]
            exact ⟨hQ.nodup, by simp, fun a ha b hb e => by
              rw [List.mem_singleton] at hb; subst hb; exact hm (e ▸ ha)⟩
          · intro y hy
            rcases List.mem_append.1 hy with h | h
            · exact hQ.lt y h
            · rw [List.mem_singleton] at h; subst h; exact hi
          · intro y hy
            rcases List.mem_append.1 hy with h | h
            · exact hQ.wf y h
            · rw [List.mem_singleton] at h; subst h; exact .mk _ fun p hpp => hQ.wf p (hp p hpp)
      · right
        refine ⟨((i + 1 : Nat) : Int), ?_, ⟨i + 1, rfl, hi, fun k hk hpk => ?_⟩, by simp; omega⟩
        · unfold braidref09_Order_L2
          rw [if_pos (by simpa using hi)]
          show ((idx (tab g.Ops.length fun i => decide (i ∈ Q)) (i : Int) >>= fun x12 => if !x12 then idx g.Ops (i : Int) >>= fun x15 => braidref09_All (Q.map (idAt g)) x15.Preds >>= fun r17 => some r17 else some false) >>= _) = _
          rw [hcond, decide_eq_false hp, w64_nat (by omega), Bool.and_false]
          rfl
        · by_cases hk' : k = i
          · subst hk'; exact absurd hpk hp
          · exact h2 k (by omega) hpk
  · left
    have : i = g.Ops.length := by omega
    subst this
    refine ⟨_, ?_, .inr ⟨rfl, h2⟩⟩
    unfold braidref09_Order_L2
    rw [if_neg (by simp)]
    rfl
theorem order_eq (E : GoodE g) (h : allIn g = true) : ∃ Q : List Nat, braidref09_Order g = some (il Q) ∧ Got (preds g) g.Ops.length Q ∧ Topo (preds g) Q ∧ ∀ i, i ∈ Q ↔ i < g.Ops.length ∧ Wf (preds g) i := by
  have hP := goodP E h
  have hlen := E.len
  have main := iter_inv (F := braidref09_Order_L0 g)
    (fun s => ∃ Q b, s = ordSt g Q b ∧ Got (preds g) g.Ops.length Q ∧ Topo (preds g) Q ∧ (b = false → ∀ i, i < g.Ops.length → (∀ p ∈ preds g i, p ∈ Q) → i ∈ Q))
    (fun s => (g.Ops.length - s.1.length) + (if s.2.2.2 then 1 else 0))
    (fun r => ∃ Q : List Nat, r = il Q ∧ Got (preds g) g.Ops.length Q ∧ Topo (preds g) Q ∧ ∀ i, i ∈ Q ↔ i < g.Ops.length ∧ Wf (preds g) i)
    (fun s hs => by
      obtain ⟨Q, b, rfl, h1, h2, h3⟩ := hs
      have hql := h1.len
      cases b with
      | false =>
        left
        refine ⟨il Q, rfl, Q, rfl, h1, h2, fun i => ⟨fun hi => ⟨h1.lt i hi, h1.wf i hi⟩, fun hi => ?_⟩⟩
        obtain ⟨hi, hw⟩ := hi
        revert hi
        induction hw with
        | mk i hpi ih => exact fun hi => h3 rfl i hi fun p hp => ih p hp (hP.lt i p hp)
      | true =>
        right
        obtain ⟨r, e1, e2⟩ := ord_L2 E h Q h1 h2
        rcases e2 with ⟨i, rfl, e3, e4⟩ | ⟨rfl, e3⟩
        · refine ⟨_, ?_, ⟨Q ++ [i], true, rfl, e3, e4, by simp⟩, ?_⟩
          · unfold braidref09_Order_L0
            exact (if_pos rfl).trans e1
          · have := e3.len
            simp only [ordSt, il_len, List.length_append, List.length_cons, List.length_nil] at this ⊢
            omega
        · refine ⟨_, ?_, ⟨Q, false, rfl, h1, h2, fun _ => e3⟩, ?_⟩
          · unfold braidref09_Order_L0
            exact (if_pos rfl).trans e1
          · simp [ordSt])
    ([], [], List.replicate g.Ops.length false, true) ⟨[], true, by unfold ordSt; rw [tab_const]; simp [il], ⟨by simp, by simp, by simp⟩, fun k hk => by simp at hk, by simp⟩
  obtain ⟨r, e1, Q, rfl, e2, e3, e4⟩ := main
  refine ⟨Q, ?_, e2, e3, e4⟩
  unfold braidref09_Order
  rw [mkn_eq (by omega) (by omega)]
  simp only [bS]
  rw [e1]
  simp only [bS]
theorem full_iff {n : Nat} {Q : List Nat} (hn : Q.Nodup) (hl : ∀ x ∈ Q, x < n) : ¬ Q.length < n ↔ ∀ i, i < n → i ∈ Q := by
  constructor
  · intro h i hi
    refine Decidable.byContradiction fun hm => ?_
    have := nodup_le (i :: Q) (List.range n) (List.nodup_cons.2 ⟨hm, hn⟩) fun x hx => by
      rcases List.mem_cons.1 hx with rfl | hx
      · simpa using hi
      · simpa using hl x hx
    simp at this; omega
  · intro h
    have := nodup_le (List.range n) Q List.nodup_range fun x hx => h x (by simpa using hx)
    simp at this; omega
def AllWf (g : api_Graph) : Prop := ∀ i, i < g.Ops.length → Wf (preds g) i
theorem shape_eq (hl : g.Ops.length ≤ 60) (hi : g.IDs.length = g.Ops.length) (ho : ∀ i (h : i < g.Ops.length), (g.Ops[i]).Preds.length ≤ 4 ∧ incr (g.Ops[i]).Preds = true) :
    ∃ c : Int, dag_shape g = some c ∧ braidref09_shape g = some c ∧ (c = 0 ↔ incr g.IDs = true ∧ allIn g = true ∧ AllWf g) := by
  have s0 := shape_L0 g (by omega)
  unfold dag_shape braidref09_shape
  rw [s0, Rising_eq _ (by omega)]
  simp only [bS]
  by_cases hr : incr g.IDs = true
  · rw [if_pos hr, hr, if_neg (by simp), mkn_eq (by omega) (by omega)]
    simp only [bS]
    rw [mkn_eq (by omega) (by omega)]
    simp only [bS]
    have E : GoodE g := ⟨hl, hi, hr, ho⟩
    have h2 := L2_run E g.Ops [] rfl
    have h3 := refAll_run E g.Ops [] rfl
    have i1 : tab g.Ops.length (indeg g 0) = List.replicate g.Ops.length 0 := by
      rw [tab_const]; exact tab_congr fun j _ => by unfold indeg; rw [if_neg (by omega)]
    have i2 : tab g.Ops.length (fun x => il (succs g 0 x)) = List.replicate g.Ops.length [] := by
      rw [tab_const]; exact tab_congr fun j _ => by unfold succs; simp [il]
    have i3 : il (ready g 0) = [] := by unfold ready; simp [il]
    simp only [List.length_nil] at h2 h3
    rw [i1, i2, i3] at h2
    rw [show (0 : Int) = ((0 : Nat) : Int) from rfl] at *
    rw [h2, h3]
    cases ha : g.Ops.all fun o => o.Preds.all fun x => decide (x ∈ g.IDs) with
    | false => exact ⟨40, rfl, rfl, by simp [allIn, ha]⟩
    | true =>
      have ha' : allIn g = true := ha
      obtain ⟨Q, q1, q2, q3, q4⟩ := order_eq E ha'
      have hP := goodP E ha'
      have i4 : tab g.Ops.length (indeg g g.Ops.length) = tab g.Ops.length (cnt (preds g) []) := tab_congr fun j hj => by
        unfold indeg; rw [if_pos hj, cnt_nil]
      obtain ⟨b, k1, R, rfl, k2, k3⟩ := L6_run hP (tab g.Ops.length (indeg g g.Ops.length), tab g.Ops.length (fun x => il (succs g g.Ops.length x)), il (ready g g.Ops.length)) rfl
      have hRQ : R.length = Q.length := nodup_len k2 q2.nodup fun x => by rw [k3, q4]
      simp only [if_true, or_r]
      rw [i4] at k1
      rw [i4, show il (ready g g.Ops.length) = il ((List.range g.Ops.length).filter fun k => decide ((preds g k).length = 0)) from rfl] at *
      rw [show ((0 : Nat) : Int) = 0 from rfl] at *
      rw [k1, q1]
      simp only [bS]
      rw [il_len, hRQ]
      have hfull := full_iff q2.nodup q2.lt
      by_cases hc : Q.length < g.Ops.length
      · rw [if_pos (by simpa using hc)]
        refine ⟨36, rfl, rfl, by simp, fun h => ?_⟩
        have := hfull.2 fun i hi => (q4 i).2 ⟨hi, h.2.2 i hi⟩
        exact absurd hc this
      · rw [if_neg (by simpa using hc)]
        exact ⟨0, rfl, rfl, fun _ => ⟨by first | exact hr | trivial, ha', fun i hi => ((q4 i).1 (hfull.1 hc i hi)).2⟩, fun _ => rfl⟩
  · have hr' : incr g.IDs = false := by simpa using hr
    rw [if_neg hr, hr']
    exact ⟨32, rfl, rfl, by simp [hr']⟩
def okOps (g : api_Graph) : Prop := ∀ i (h : i < g.Ops.length), opBad g.Ops[i] = 0 ∧ sha (encOp g.Ops[i]) = idAt g i
structure GoodG (g : api_Graph) : Prop where
  e : GoodE g
  ops : okOps g
  ins : allIn g = true
  wf : AllWf g
theorem opBad_code {a : api_Op} (h : opBad a = 0) : opCode a = 0 := by
  unfold opBad at h
  by_cases hc : opCode a = 0
  · exact hc
  · rw [if_neg hc] at h; exact h
theorem wf_op {g : api_Graph} (h : wf_api_Graph g) {o : api_Op} (ho : o ∈ g.Ops) : inI o.Act.Value.Num ∧ o.Act.Value.Text.length ≤ 9223372036854775807 := by
  have := h.2.1.1 o ho
  exact ⟨this.2.2.2.1.2.2.1.2.1, this.2.2.2.1.2.2.1.2.2.2.1⟩
def goodOp (g : api_Graph) (i : Nat) (o : api_Op) : Bool := decide (opBad o = 0) && decide (sha (encOp o) = idAt g i)
theorem check_L0 (hw : wf_api_Graph g) (hl : g.Ops.length ≤ 60) (hi : g.IDs.length = g.Ops.length) : ∀ (k i : Nat), g.Ops.length - i = k → i ≤ g.Ops.length →
    ∃ r : Sum Int Unit, iter (dag_Check_L0 g) (i : Int) = some r ∧ iter (braidref09_Check_L0 g) (i : Int) = some r ∧ ((r = .inr () ∧ ∀ j (h : j < g.Ops.length), i ≤ j → goodOp g j g.Ops[j] = true) ∨ (r = .inl 8 ∧ ∃ j, ∃ h : j < g.Ops.length, goodOp g j g.Ops[j] = false)) := by
  intro k
  induction k with
  | zero =>
    intro i hk hle
    refine ⟨.inr (), iter_l ?_, iter_l ?_, .inl ⟨rfl, fun j hj hij => by omega⟩⟩
    · unfold dag_Check_L0; rw [if_neg (by simp; omega)]
    · unfold braidref09_Check_L0; rw [if_neg (by simp; omega)]
  | succ k ih =>
    intro i hk hle
    have hlt : i < g.Ops.length := by omega
    have hii : i < g.IDs.length := by omega
    obtain ⟨w1, w2⟩ := wf_op hw (List.getElem_mem hlt)
    have e1 : dag_Check_L0 g (i : Int) = if goodOp g i g.Ops[i] then some (.inr ((i + 1 : Nat) : Int)) else some (.inl (.inl 8)) := by
      unfold dag_Check_L0 goodOp
      rw [if_pos (by simpa using hlt), idx_nat hlt]
      simp only [bS]
      rw [opID_eq _ w1 w2, w64_nat (by omega)]
      simp only [bS]
      by_cases hc : opCode g.Ops[i] = 0
      · rw [if_pos hc]
        simp only []
        rw [if_neg (by simp), idx_nat hii, ← idAt_get hii]
        simp only [bS]
        by_cases hs : sha (encOp g.Ops[i]) = idAt g i
        · rw [decide_eq_true hs, if_neg (by simp), opVerify_eq _ w1 w2]
          simp only [bS]
          by_cases hb : opBad g.Ops[i] = 0
          · rw [hb]; rfl
          · rw [if_pos (by simpa using hb), decide_eq_false hb]; rfl
        · rw [decide_eq_false hs, Bool.and_false]; rfl
      · have hb : opBad g.Ops[i] ≠ 0 := fun h => hc (opBad_code h)
        rw [if_neg hc, decide_eq_false hb]
        simp only []
        rw [if_pos (by simpa using hc)]; rfl
    have e2 : braidref09_Check_L0 g (i : Int) = if goodOp g i g.Ops[i] then some (.inr ((i + 1 : Nat) : Int)) else some (.inl (.inl 8)) := by
      unfold braidref09_Check_L0 goodOp
      rw [if_pos (by simpa using hlt), idx_nat hlt]
      simp only [bS]
      rw [refVerify_eq _ w1 w2, w64_nat (by omega)]
      simp only [bS]
      by_cases hb : opBad g.Ops[i] = 0
      · rw [hb, if_neg (by simp), idx_nat hii, ← idAt_get hii, refOf_eq _ (opBad_code hb) w1]
        simp only [bS]
        by_cases hs : sha (encOp g.Ops[i]) = idAt g i
        · rw [decide_eq_true hs]; rfl
        · rw [decide_eq_false hs]; rfl
      · rw [if_pos (by simpa using hb), decide_eq_false hb]; rfl
    cases hg : goodOp g i g.Ops[i] with
    | false =>
      rw [hg] at e1 e2
      exact ⟨_, iter_l e1, iter_l e2, .inr ⟨rfl, i, hlt, hg⟩⟩
    | true =>
      rw [hg] at e1 e2
      obtain ⟨r, h1, h2, h3⟩ := ih (i + 1) (by omega) (by omega)
      refine ⟨r, by rw [iter_r e1]; exact h1, by rw [iter_r e2]; exact h2, ?_⟩
      rcases h3 with ⟨h3, h4⟩ | h3
      · refine .inl ⟨h3, fun j hj hij => ?_⟩
        by_cases hji : j = i
        · subst hji; exact hg
        · exact h4 j hj (by omega)
      · exact .inr h3
theorem check_eq (hw : wf_api_Graph g) : ∃ c : Int, dag_Check g = some c ∧ braidref09_Check g = some c ∧ (c = 0 ↔ GoodG g) := by
  unfold dag_Check braidref09_Check
  by_cases hl : 60 < g.Ops.length
  · have d : decide (60 < (g.Ops.length : Int)) = true := by simp; omega
    rw [d]
    exact ⟨4, rfl, rfl, by simp, fun h => by have := h.e.len; omega⟩
  have d : decide (60 < (g.Ops.length : Int)) = false := by simp; omega
  simp only [d, Bool.false_eq_true, if_false]
  by_cases hi : g.IDs.length = g.Ops.length
  · have d2 : ((g.IDs.length : Int) != (g.Ops.length : Int)) = false := by simp; omega
    simp only [d2, Bool.false_eq_true, if_false]
    obtain ⟨r, h1, h2, h3⟩ := check_L0 hw (by omega) hi g.Ops.length 0 rfl (by omega)
    rw [show (0 : Int) = ((0 : Nat) : Int) from rfl, h1, h2]
    rcases h3 with ⟨rfl, h4⟩ | ⟨rfl, j, hj, h4⟩
    · have hok : okOps g := fun i h => by
        have := h4 i h (by omega)
        unfold goodOp at this
        simpa using this
      obtain ⟨c, s1, s2, s3⟩ := shape_eq (g := g) (by omega) hi fun i h => ⟨(opCode_ok (opBad_code (hok i h).1)).1, (opCode_ok (opBad_code (hok i h).1)).2.1⟩
      refine ⟨c, ?_, ?_, s3.trans ⟨fun ⟨a, b, d⟩ => ⟨⟨by omega, hi, a, fun i h => ⟨(opCode_ok (opBad_code (hok i h).1)).1, (opCode_ok (opBad_code (hok i h).1)).2.1⟩⟩, hok, b, d⟩, fun h => ⟨h.e.ri, h.ins, h.wf⟩⟩⟩
      · simp only [or_r]; rw [s1]; simp only [bS]
      · simp only [or_r]; rw [s2]; simp only [bS]
    · refine ⟨8, rfl, rfl, by simp, fun h => ?_⟩
      have := h.ops j hj
      unfold goodOp at h4
      simp [this] at h4
  · have d2 : ((g.IDs.length : Int) != (g.Ops.length : Int)) = true := by simp; omega
    rw [d2]
    exact ⟨8, rfl, rfl, by simp, fun h => absurd h.e.ids hi⟩
end Go.Proofs.YtjnheeekdadcpaaGreatDoor
namespace Go.Proofs.YtjnheeekdadcpaaGreatDoor
open Go
set_option linter.unusedSimpArgs false
set_option linter.unusedVariables false
variable {g : api_Graph}
theorem mget_mput {κ β : Type} [DecidableEq κ] (k : κ) (v : β) (x : κ) : ∀ m : List (κ × β), mget (mput m k v) x = if x = k then some v else mget m x
  | [] => rfl
  | p :: m => by
    have ih := mget_mput k v x m
    unfold mput
    by_cases h : k = p.1
    · rw [if_pos h]
      show (if x = p.1 then some v else mget m x) = if x = k then some v else if x = p.1 then some p.2 else mget m x
      rw [← h]
      by_cases hx : x = k
      · rw [if_pos hx, if_pos hx]
      · rw [if_neg hx, if_neg hx, if_neg hx]
    · rw [if_neg h]
      show (if x = p.1 then some p.2 else mget (mput m k v) x) = if x = k then some v else if x = p.1 then some p.2 else mget m x
      rw [ih]
      by_cases hx : x = p.1
      · rw [if_pos hx, if_pos hx, if_neg (fun e => h (by rw [← hx, e]))]
      · rw [if_neg hx, if_neg hx]
def Places (g : api_Graph) (m : List (ID × Int)) : Prop := ∀ x ∈ g.IDs, (mget m x).getD 0 = (g.IDs.idxOf x : Int)
theorem places_eq (E : GoodE g) : ∃ m, ancestry_places g = some m ∧ Places g m := by
  have hlen := E.len
  have hids := E.ids
  have main := iter_up (F := ancestry_places_L0 g) g.IDs.length
    (fun i s => s.2 = (i : Int) ∧ ∀ x, x ∈ g.IDs → g.IDs.idxOf x < i → (mget s.1 x).getD 0 = (g.IDs.idxOf x : Int))
    (fun m => Places g m)
    (fun i s hi hs => by
      obtain ⟨m, i'⟩ := s
      obtain ⟨h1, h2⟩ := hs
      simp only at h1 h2
      subst h1
      refine ⟨(mput m g.IDs[i] (i : Int), ((i + 1 : Nat) : Int)), ?_, rfl, fun x hx hlt => ?_⟩
      · unfold ancestry_places_L0
        rw [if_pos (by simpa using hi)]
        simp only []
        rw [idx_nat hi, w64_nat (by omega)]
        simp only [bS]
      · simp only []
        rw [mget_mput]
        by_cases he : x = g.IDs[i]
        · rw [if_pos he, he, idxOf_at E.ri hi]; rfl
        · rw [if_neg he]
          refine h2 x hx ?_
          have hne : g.IDs.idxOf x ≠ i := fun e => he (by subst e; simp)
          omega)
    (fun s hs => by
      obtain ⟨m, i'⟩ := s
      obtain ⟨h1, h2⟩ := hs
      simp only at h1 h2
      subst h1
      refine ⟨m, ?_, fun x hx => h2 x hx (List.idxOf_lt_length_of_mem hx)⟩
      unfold ancestry_places_L0
      rw [if_neg (by simp)])
    (([] : List (ID × Int)), 0) 0 (Nat.zero_le _) ⟨rfl, fun x hx h => by omega⟩
  obtain ⟨m, h1, h2⟩ := main
  refine ⟨m, ?_, h2⟩
  unfold ancestry_places
  rw [h1]
  simp only [bS]
inductive Rch (P : Nat → List Nat) (S : List Nat) : Nat → Prop
  | base {i : Nat} : i ∈ S → Rch P S i
  | step {i p : Nat} : Rch P S i → p ∈ P i → Rch P S p
def unm (n : Nat) (m : Nat → Bool) : List Nat := (List.range n).filter fun i => !m i
theorem unm_nodup (n : Nat) (m : Nat → Bool) : (unm n m).Nodup := List.Pairwise.filter _ List.nodup_range
theorem unm_mem {n : Nat} {m : Nat → Bool} {i : Nat} : i ∈ unm n m ↔ i < n ∧ m i = false := by unfold unm; simp
theorem unm_le {n : Nat} {m m' : Nat → Bool} (h : ∀ i, m i = true → m' i = true) : (unm n m').length ≤ (unm n m).length :=
  nodup_le _ _ (unm_nodup n m') fun x hx => by
    rw [unm_mem] at *
    refine ⟨hx.1, ?_⟩
    cases hm : m x with
    | false => rfl
    | true => have := h x hm; rw [hx.2] at this; exact absurd this (by simp)
theorem unm_lt {n : Nat} {m m' : Nat → Bool} (h : ∀ i, m i = true → m' i = true) {y : Nat} (hy : y < n) (h1 : m y = false) (h2 : m' y = true) : (unm n m').length < (unm n m).length := by
  have hin : y ∈ unm n m := unm_mem.2 ⟨hy, h1⟩
  have := nodup_le (unm n m') ((unm n m).erase y) (unm_nodup n m') fun x hx => by
    have hne : x ≠ y := fun e => by subst e; rw [unm_mem] at hx; rw [h2] at hx; exact absurd hx.2 (by simp)
    rw [List.mem_erase_of_ne hne]
    rw [unm_mem] at *
    refine ⟨hx.1, ?_⟩
    cases hm : m x with
    | false => rfl
    | true => have := h x hm; rw [hx.2] at this; exact absurd this (by simp)
  rw [List.length_erase_of_mem hin] at this
  have := List.length_pos_of_mem hin
  omega
structure Grow (P : Nat → List Nat) (S : List Nat) (m m' : Nat → Bool) : Prop where
  sub : ∀ i, m i = true → m' i = true
  src : ∀ i ∈ S, m' i = true
  new : ∀ i, m' i = true → m i = true ∨ Rch P S i
  clo : ∀ i, m' i = true → m i = true ∨ ∀ p ∈ P i, m' p = true
theorem preds_id {i : Nat} {x : ID} (h : allIn g = true) (hx : x ∈ opAt g i) : x ∈ g.IDs ∧ g.IDs.idxOf x ∈ preds g i := ⟨allIn_at h i x hx, List.mem_map.2 ⟨x, hx, rfl⟩⟩
theorem Rch.mono {P : Nat → List Nat} {S T : List Nat} (h : ∀ x ∈ S, x ∈ T) {i : Nat} (hr : Rch P S i) : Rch P T i := by
  induction hr with
  | base h1 => exact .base (h _ h1)
  | step _ h2 ih => exact .step ih h2
theorem Rch.thru {P : Nat → List Nat} {S T : List Nat} (h : ∀ x ∈ S, Rch P T x) {i : Nat} (hr : Rch P S i) : Rch P T i := by
  induction hr with
  | base h1 => exact h _ h1
  | step _ h2 ih => exact .step ih h2
theorem visits (E : GoodE g) {σ : Type} (xs : List ID) (hxs : ∀ x ∈ xs, x ∈ g.IDs) (hl : xs.length ≤ 100) (F : (List Bool × Int) → Option (Sum (List Bool) (List Bool × Int))) (V : ID → List Bool → Option (List Bool)) (m0 : Nat → Bool) (N : Nat)
    (hF : ∀ m (i : Nat) (h : i < xs.length), F (m, (i : Int)) = (V xs[i] m >>= fun r => some (.inr (r, ((i + 1 : Nat) : Int))))) (hF2 : ∀ m, F (m, (xs.length : Int)) = some (.inl m))
    (hV : ∀ m x, x ∈ xs → (∀ i, m0 i = true → m i = true) → ∃ m', V x (tab g.Ops.length m) = some (tab g.Ops.length m') ∧ Grow (preds g) [g.IDs.idxOf x] m m') :
    ∃ m', iter F (tab g.Ops.length m0, 0) = some (tab g.Ops.length m') ∧ Grow (preds g) (xs.map fun x => g.IDs.idxOf x) m0 m' := by
  have main := iter_up (F := F) xs.length
    (fun i s => ∃ m, s = (tab g.Ops.length m, (i : Int)) ∧ Grow (preds g) ((xs.take i).map fun x => g.IDs.idxOf x) m0 m)
    (fun r => ∃ m', r = tab g.Ops.length m' ∧ Grow (preds g) (xs.map fun x => g.IDs.idxOf x) m0 m')
    (fun i s hi hs => by
      obtain ⟨m, rfl, hm⟩ := hs
      obtain ⟨m', e1, e2⟩ := hV m xs[i] (List.getElem_mem hi) hm.sub
      refine ⟨_, by rw [hF _ i hi, e1, bS], m', rfl, ?_⟩
      have et : (xs.take (i + 1)).map (fun x => g.IDs.idxOf x) = (xs.take i).map (fun x => g.IDs.idxOf x) ++ [g.IDs.idxOf xs[i]] := by
        rw [List.take_add_one, List.getElem?_eq_getElem hi, List.map_append]; rfl
      rw [et]
      refine ⟨fun j hj => e2.sub j (hm.sub j hj), fun j hj => ?_, fun j hj => ?_, fun j hj => ?_⟩
      · rcases List.mem_append.1 hj with h | h
        · exact e2.sub j (hm.src j h)
        · exact e2.src j h
      · rcases e2.new j hj with h | h
        · rcases hm.new j h with h | h
          · exact .inl h
          · exact .inr (h.mono fun x hx => List.mem_append.2 (.inl hx))
        · exact .inr (h.mono fun x hx => List.mem_append.2 (.inr hx))
      · rcases e2.clo j hj with h | h
        · rcases hm.clo j h with h | h
          · exact .inl h
          · exact .inr fun p hp => e2.sub p (h p hp)
        · exact .inr h)
    (fun s hs => by
      obtain ⟨m, rfl, hm⟩ := hs
      refine ⟨_, hF2 _, m, rfl, ?_⟩
      rw [List.take_length] at hm; exact hm)
    (tab g.Ops.length m0, ((0 : Nat) : Int)) 0 (Nat.zero_le _) ⟨m0, rfl, by simp, by simp, fun j hj => .inl hj, fun j hj => .inl hj⟩
  obtain ⟨r, h1, m', rfl, h2⟩ := main
  exact ⟨m', h1, h2⟩
theorem visit_eq (E : GoodE g) (h : allIn g = true) {r : List (ID × Int)} (hr : Places g r) : ∀ (N : Nat) (m : Nat → Bool) (x : ID), x ∈ g.IDs → (unm g.Ops.length m).length < N → ∃ m', ancestry_reach_1 N x r (tab g.Ops.length m) g = some (tab g.Ops.length m') ∧ Grow (preds g) [g.IDs.idxOf x] m m'
  | 0, _, _, _, hn => by omega
  | N + 1, m, x, hx, hn => by
    have hlen := E.len
    have hk : g.IDs.idxOf x < g.Ops.length := by rw [← E.ids]; exact List.idxOf_lt_length_of_mem hx
    show ∃ m', ancestry_reach_1_body (ancestry_reach_1 N) x r (tab g.Ops.length m) g = _ ∧ _
    unfold ancestry_reach_1_body
    rw [hr x hx]
    simp only [bS]
    rw [tab_idx hk]
    simp only [bS]
    cases hm : m (g.IDs.idxOf x) with
    | true =>
      rw [if_pos rfl]
      exact ⟨m, rfl, fun i hi => hi, fun i hi => by rw [List.mem_singleton] at hi; subst hi; exact hm, fun i hi => .inl hi, fun i hi => .inl hi⟩
    | false =>
      rw [if_neg (by simp), idx_nat hk]
      simp only [bS, Int.toNat_natCast]
      let m1 := fun i => if i = g.IDs.idxOf x then true else m i
      have hs1 : ∀ i, m i = true → m1 i = true := fun i hi => by
        show (if _ then _ else _) = true
        split
        · rfl
        · exact hi
      have h1x : m1 (g.IDs.idxOf x) = true := if_pos rfl
      have hset : (tab g.Ops.length m).set (g.IDs.idxOf x) true = tab g.Ops.length m1 := tab_set hk h1x fun j _ hj => if_neg hj
      rw [hset]
      have hu := unm_lt hs1 hk hm h1x
      have hop : opAt g (g.IDs.idxOf x) = (g.Ops[g.IDs.idxOf x]).Preds := opAt_get hk
      have h4 := E.four (g.IDs.idxOf x)
      rw [hop] at h4
      obtain ⟨m', e1, e2⟩ := visits (σ := Unit) E (g.Ops[g.IDs.idxOf x]).Preds (fun y hy => (preds_id h (by rw [hop]; exact hy)).1) (by omega)
        (ancestry_reach_1_L0 r g (ancestry_reach_1 N) g.Ops[g.IDs.idxOf x]) (fun y l => ancestry_reach_1 N y r l g) m1 N
        (fun l i hi => by
          unfold ancestry_reach_1_L0
          rw [if_pos (by simpa using hi)]
          simp only []
          rw [idx_nat hi, w64_nat (by omega)]
          simp only [bS])
        (fun l => by
          unfold ancestry_reach_1_L0
          rw [if_neg (by simp)])
        (fun l y hy hsub => visit_eq E h hr N l y (preds_id h (by rw [hop]; exact hy)).1 (by have := unm_le (n := g.Ops.length) hsub; omega))
      refine ⟨m', e1, ?_⟩
      have hpe : ((g.Ops[g.IDs.idxOf x]).Preds.map fun x => g.IDs.idxOf x) = preds g (g.IDs.idxOf x) := by unfold preds; rw [hop]
      rw [hpe] at e2
      have hxx : m' (g.IDs.idxOf x) = true := e2.sub _ h1x
      refine ⟨fun i hi => e2.sub i (hs1 i hi), fun i hi => by rw [List.mem_singleton] at hi; subst hi; exact hxx, fun i hi => ?_, fun i hi => ?_⟩
      · rcases e2.new i hi with h | h
        · by_cases hix : i = g.IDs.idxOf x
          · exact .inr (.base (by rw [hix]; simp))
          · have : m1 i = m i := if_neg hix
            rw [this] at h; exact .inl h
        · exact .inr (h.thru fun y hy => .step (.base (by simp)) hy)
      · rcases e2.clo i hi with h | h
        · by_cases hix : i = g.IDs.idxOf x
          · rw [hix]; exact .inr fun p hp => e2.src p hp
          · have : m1 i = m i := if_neg hix
            rw [this] at h; exact .inl h
        · exact .inr h
theorem reach_eq (E : GoodE g) (h : allIn g = true) (xs : List ID) (hxs : ∀ x ∈ xs, x ∈ g.IDs) (hl : xs.length ≤ 100) : ∃ m, ancestry_reach g xs = some (tab g.Ops.length m) ∧ ∀ i, m i = true ↔ Rch (preds g) (xs.map fun x => g.IDs.idxOf x) i := by
  have hlen := E.len
  obtain ⟨r, e1, e2⟩ := places_eq E
  have hu : (unm g.Ops.length fun _ => false).length ≤ 60 := by
    have := List.length_filter_le (fun i => !(false : Bool)) (List.range g.Ops.length)
    unfold unm; simp at this ⊢; omega
  obtain ⟨m', e3, e4⟩ := visits (σ := Unit) E xs hxs hl (ancestry_reach_L0 g xs r) (fun y l => ancestry_reach_1 1000 y r l g) (fun _ => false) 1000
    (fun l i hi => by
      unfold ancestry_reach_L0
      rw [if_pos (by simpa using hi)]
      simp only []
      rw [idx_nat hi, w64_nat (by omega)]
      simp only [bS])
    (fun l => by
      unfold ancestry_reach_L0
      rw [if_neg (by simp)])
    (fun l y hy hsub => visit_eq E h e2 1000 l y (hxs y hy) (by have := unm_le (n := g.Ops.length) hsub; omega))
  refine ⟨m', ?_, fun i => ⟨fun hi => (e4.new i hi).resolve_left (by simp), fun hi => ?_⟩⟩
  · unfold ancestry_reach
    rw [e1]
    simp only [bS]
    rw [mkn_eq (by have := E.ids; omega) (by have := E.ids; omega), E.ids, tab_const]
    simp only [bS]
    rw [e3]
    simp only [bS]
  · induction hi with
    | base hs => exact e4.src _ hs
    | step _ hp ih => exact ((e4.clo _ ih).resolve_left (by simp)) _ hp
def marksOf (g : api_Graph) (m : Nat → Bool) : List ID := ((List.range g.Ops.length).filter m).map (idAt g)
theorem marked_eq (E : GoodE g) (m : Nat → Bool) : ancestry_marked g (tab g.Ops.length m) = some (marksOf g m) := by
  have hlen := E.len
  have hl : ∀ i, i ≤ g.Ops.length → (((List.range i).filter m).map (idAt g)).length ≤ 60 := fun i hi => by
    have := List.length_filter_le m (List.range i)
    simp at this ⊢; omega
  have : iter (ancestry_marked_L0 g (tab g.Ops.length m)) ([], 0) = some (marksOf g m) := by
    have := iter_run (F := ancestry_marked_L0 g (tab g.Ops.length m)) (b := marksOf g m) g.Ops.length (fun i => (((List.range i).filter m).map (idAt g), (i : Int))) (fun i hi => ?_) ?_
    · simpa using this
    · have hii : i < g.IDs.length := by rw [E.ids]; exact hi
      have hli := hl i (by omega)
      unfold ancestry_marked_L0
      rw [if_pos (by rw [tab_len]; simpa using hi)]
      simp only []
      rw [tab_idx hi, List.range_succ, List.filter_append, List.map_append, w64_nat (by omega)]
      simp only [bS]
      cases hm : m i with
      | true =>
        rw [if_pos rfl, idx_nat hii]
        simp only [bS]
        rw [app_eq (by simp only [List.length_cons, List.length_nil]; omega), List.filter_cons_of_pos (by exact hm), ← idAt_get hii]
        simp only [bS]; rfl
      | false =>
        rw [if_neg (by simp), List.filter_cons_of_neg (by rw [hm]; simp)]
        simp
    · unfold ancestry_marked_L0
      rw [if_neg (by rw [tab_len]; simp)]; rfl
  unfold ancestry_marked
  rw [this]
  simp only [bS]
theorem marksOf_mem (E : GoodE g) {m : Nat → Bool} {x : ID} : x ∈ marksOf g m ↔ x ∈ g.IDs ∧ m (g.IDs.idxOf x) = true := by
  unfold marksOf
  rw [List.mem_map]
  constructor
  · rintro ⟨i, hi, rfl⟩
    rw [List.mem_filter, List.mem_range] at hi
    have hii : i < g.IDs.length := by rw [E.ids]; exact hi.1
    refine ⟨by rw [idAt_get hii]; exact List.getElem_mem _, ?_⟩
    rw [idx_idAt E hi.1]; exact hi.2
  · rintro ⟨h1, h2⟩
    refine ⟨_, ?_, idAt_idx h1⟩
    rw [List.mem_filter, List.mem_range, ← E.ids]
    exact ⟨List.idxOf_lt_length_of_mem h1, h2⟩
theorem marksOf_incr (E : GoodE g) (m : Nat → Bool) : incr (marksOf g m) = true := by
  rw [incr_pw]
  unfold marksOf
  rw [List.pairwise_map]
  have : (List.range g.Ops.length).Pairwise fun a b => a < g.Ops.length ∧ b < g.Ops.length ∧ a < b := by
    rw [List.pairwise_iff_getElem]
    intro i j hi hj hij
    simp at hi hj ⊢
    omega
  refine (this.filter m).imp fun {a b} hab => ?_
  have ha : a < g.IDs.length := by rw [E.ids]; exact hab.1
  have hb : b < g.IDs.length := by rw [E.ids]; exact hab.2.1
  rw [idAt_get ha, idAt_get hb]
  exact incr_lt E.ri ha hb hab.2.2
theorem rising_unique : ∀ (l m : List ID), l.Pairwise (fun a b => kd a < kd b) → m.Pairwise (fun a b => kd a < kd b) → (∀ x, x ∈ l ↔ x ∈ m) → l = m
  | [], m, _, _, h => by
    cases m with
    | nil => rfl
    | cons b m => have := (h b).2 (by simp); simp at this
  | a :: l, [], _, _, h => by have := (h a).1 (by simp); simp at this
  | a :: l, b :: m, h1, h2, h => by
    obtain ⟨p1, p2⟩ := List.pairwise_cons.1 h1
    obtain ⟨q1, q2⟩ := List.pairwise_cons.1 h2
    have hab : a = b := by
      have ha := (h a).1 (by simp)
      have hb := (h b).2 (by simp)
      rcases List.mem_cons.1 ha with e | ha'
      · exact e
      · rcases List.mem_cons.1 hb with e | hb'
        · exact e.symm
        · have := q1 a ha'; have := p1 b hb'; omega
    subst hab
    congr 1
    refine rising_unique l m p2 q2 fun x => ⟨fun hx => ?_, fun hx => ?_⟩
    · rcases List.mem_cons.1 ((h x).1 (by simp [hx])) with e | h'
      · subst e; have := p1 x hx; omega
      · exact h'
    · rcases List.mem_cons.1 ((h x).2 (by simp [hx])) with e | h'
      · subst e; have := q1 x hx; omega
      · exact h'
end Go.Proofs.YtjnheeekdadcpaaGreatDoor
namespace Go.Proofs.YtjnheeekdadcpaaGreatDoor
open Go
set_option linter.unusedSimpArgs false
set_option linter.unusedVariables false
variable {g : api_Graph}
theorem sortL2 (a s : List ID) (n : Nat) (x : ID) (hn : n < a.length) (hx : a[n] = x) (hs : s.length ≤ 9223372036854775806) (hi : incr s = true) : ∃ k : Nat, iter (braidref10_Sorted_L2 a (s, (n : Int))) 0 = some (k : Int) ∧ k ≤ s.length ∧ (∀ i (h : i < s.length), i < k → kd s[i] < kd x) ∧ (∀ i (h : i < s.length), k ≤ i → kd x ≤ kd s[i]) := by
  have main := iter_inv (F := braidref10_Sorted_L2 a (s, (n : Int))) (fun st => ∃ i : Nat, st = (i : Int) ∧ i ≤ s.length ∧ ∀ j (h : j < s.length), j < i → kd s[j] < kd x) (fun st => s.length - st.toNat)
    (fun r => ∃ k : Nat, r = (k : Int) ∧ k ≤ s.length ∧ (∀ i (h : i < s.length), i < k → kd s[i] < kd x) ∧ (∀ i (h : i < s.length), k ≤ i → kd x ≤ kd s[i]))
    (fun st hst => by
      obtain ⟨i, rfl, h1, h2⟩ := hst
      by_cases hi' : i < s.length
      · have hF : braidref10_Sorted_L2 a (s, (n : Int)) (i : Int) = if decide (kd s[i] < kd x) then some (.inr ((i + 1 : Nat) : Int)) else some (.inl (i : Int)) := by
          unfold braidref10_Sorted_L2
          rw [if_pos (by simpa using hi')]
          simp only []
          rw [idx_nat hi', idx_nat hn, hx, w64_nat (by omega)]
          simp only [bS]
          rw [rcmp_kd]
          simp only [bS]
          rw [cmp_lt]
        by_cases hc : kd s[i] < kd x
        · rw [decide_eq_true hc, if_pos rfl] at hF
          refine .inr ⟨_, hF, ⟨i + 1, rfl, hi', fun j hj hji => ?_⟩, by simp; omega⟩
          by_cases hji' : j = i
          · subst hji'; exact hc
          · exact h2 j hj (by omega)
        · rw [decide_eq_false hc, if_neg (by simp)] at hF
          refine .inl ⟨_, hF, i, rfl, h1, h2, fun j hj hij => ?_⟩
          by_cases hji' : j = i
          · subst hji'; omega
          · have := incr_lt hi hi' hj (by omega); omega
      · refine .inl ⟨(i : Int), ?_, i, rfl, h1, h2, fun j hj hij => by omega⟩
        unfold braidref10_Sorted_L2
        rw [if_neg (by simpa using hi')])
    0 ⟨0, rfl, Nat.zero_le _, fun j _ h => by omega⟩
  obtain ⟨r, h1, k, rfl, h2, h3, h4⟩ := main
  exact ⟨k, h1, h2, h3, h4⟩
theorem mem_split {α : Type} (s : List α) (k : Nat) (x y : α) : y ∈ s.take k ++ [x] ++ s.drop k ↔ y ∈ s ∨ y = x := by
  have : y ∈ s ↔ y ∈ s.take k ∨ y ∈ s.drop k := by rw [← List.mem_append, List.take_append_drop]
  rw [this]
  simp only [List.mem_append, List.mem_singleton]
  constructor
  · rintro ((h | h) | h)
    · exact .inl (.inl h)
    · exact .inr h
    · exact .inl (.inr h)
  · rintro ((h | h) | h)
    · exact .inl (.inl h)
    · exact .inr h
    · exact .inl (.inr h)
theorem incr_insert {s : List ID} (hi : incr s = true) {k : Nat} {x : ID} (hk : k ≤ s.length) (h1 : ∀ i (h : i < s.length), i < k → kd s[i] < kd x) (h2 : ∀ i (h : i < s.length), k ≤ i → kd x < kd s[i]) : incr (s.take k ++ [x] ++ s.drop k) = true := by
  rw [incr_pw] at *
  have e : s = s.take k ++ s.drop k := (List.take_append_drop k s).symm
  rw [e, List.pairwise_append] at hi
  have a1 : ∀ y ∈ s.take k, kd y < kd x := fun y hy => by
    obtain ⟨i, hi', rfl⟩ := List.getElem_of_mem hy
    rw [List.getElem_take]
    rw [List.length_take] at hi'
    exact h1 i (by omega) (by omega)
  have a2 : ∀ y ∈ s.drop k, kd x < kd y := fun y hy => by
    obtain ⟨i, hi', rfl⟩ := List.getElem_of_mem hy
    rw [List.getElem_drop]
    rw [List.length_drop] at hi'
    exact h2 (k + i) (by omega) (by omega)
  rw [List.pairwise_append, List.pairwise_append]
  refine ⟨⟨hi.1, by simp, fun y hy z hz => ?_⟩, hi.2.1, fun y hy z hz => ?_⟩
  · rw [List.mem_singleton] at hz; subst hz; exact a1 y hy
  · rcases List.mem_append.1 hy with h | h
    · exact hi.2.2 y h z hz
    · rw [List.mem_singleton] at h; subst h; exact a2 z hz
theorem sorted10_eq (a : List ID) (hl : a.length ≤ 1000) : ∃ s, braidref10_Sorted a = some s ∧ incr s = true ∧ ∀ x, x ∈ s ↔ x ∈ a := by
  have main := iter_up (F := braidref10_Sorted_L0 a) a.length
    (fun n st => st.2 = (n : Int) ∧ st.1.length ≤ n ∧ incr st.1 = true ∧ ∀ x, x ∈ st.1 ↔ x ∈ a.take n)
    (fun s => incr s = true ∧ ∀ x, x ∈ s ↔ x ∈ a)
    (fun n st hn hst => by
      obtain ⟨s, n'⟩ := st
      obtain ⟨h1, h2, h3, h4⟩ := hst
      simp only at h1 h2 h3 h4
      subst h1
      obtain ⟨k, k1, k2, k3, k4⟩ := sortL2 a s n a[n] hn rfl (by omega) h3
      have hmem : ∀ y, y ∈ a.take (n + 1) ↔ y ∈ s ∨ y = a[n] := fun y => by
        rw [List.take_add_one, List.getElem?_eq_getElem hn, List.mem_append, h4 y]
        exact ⟨fun h => h.imp id fun h => List.mem_singleton.1 h, fun h => h.imp id fun h => List.mem_singleton.2 h⟩
      have hcond : (if ((k : Int) == (s.length : Int)) = true then some true else idx s (k : Int) >>= fun x17 => idx a (n : Int) >>= fun x19 => some (!decide (x17 = x19))) = some (!decide (a[n] ∈ s)) := by
        by_cases hk : k = s.length
        · rw [if_pos (by rw [hk]; simp)]
          have : a[n] ∉ s := fun hm => by
            obtain ⟨i, hi, e⟩ := List.getElem_of_mem hm
            have := k3 i hi (by omega)
            rw [e] at this; omega
          rw [decide_eq_false this]; rfl
        · have hk' : k < s.length := by omega
          rw [if_neg (by simp; omega), idx_nat hk', idx_nat hn]
          simp only [bS]
          have : decide (s[k] = a[n]) = decide (a[n] ∈ s) := by
            rw [decide_eq_decide]
            refine ⟨fun e => e ▸ List.getElem_mem hk', fun hm => ?_⟩
            obtain ⟨i, hi, e⟩ := List.getElem_of_mem hm
            by_cases hik : i < k
            · have := k3 i hi hik; rw [e] at this; omega
            · by_cases hik' : i = k
              · subst hik'; exact e
              · have := incr_lt h3 hk' hi (by omega)
                have := k4 k hk' (Nat.le_refl _)
                rw [e] at *; omega
          rw [this]
      by_cases hm : a[n] ∈ s
      · rw [decide_eq_true hm] at hcond
        refine ⟨(s, ((n + 1 : Nat) : Int)), ?_, rfl, ?_, h3, fun x => ?_⟩
        · unfold braidref10_Sorted_L0
          rw [if_pos (by simpa using hn), k1]
          simp only [bS]
          rw [hcond, w64_nat (by omega)]
          rfl
        · simp only []; omega
        · rw [hmem]
          exact ⟨.inl, fun h => h.elim id fun e => e ▸ hm⟩
      · rw [decide_eq_false hm] at hcond
        have hlen : (s.take k ++ [a[n]] ++ s.drop k).length = s.length + 1 := by
          simp only [List.length_append, List.length_take, List.length_drop, List.length_cons, List.length_nil]; omega
        refine ⟨(s.take k ++ [a[n]] ++ s.drop k, ((n + 1 : Nat) : Int)), ?_, rfl, ?_, ?_, fun x => ?_⟩
        · unfold braidref10_Sorted_L0
          rw [if_pos (by simpa using hn), k1]
          simp only [bS]
          rw [hcond]
          simp only [bS]
          rw [if_pos (by simp), show (0 : Int) = ((0 : Nat) : Int) from rfl, cut_eq (by omega) (by omega), idx_nat hn, cut_eq (by omega) (by omega)]
          simp only [bS, List.drop_zero, Nat.sub_zero]
          have e2 : (s.drop k).take (s.length - k) = s.drop k := List.take_of_length_le (by simp)
          rw [e2, app_eq (by simp; omega)]
          simp only [bS, List.nil_append]
          rw [app_eq (by simp; omega)]
          simp only [bS]
          rw [app_eq (by simp; omega), w64_nat (by omega)]
          simp only [bS]
        · simp only []; rw [hlen]; omega
        · refine incr_insert h3 k2 k3 fun i hi hki => ?_
          have := k4 i hi hki
          rcases Nat.lt_or_eq_of_le this with h | h
          · exact h
          · exact absurd (kd_inj h ▸ List.getElem_mem hi) hm
        · rw [hmem]; exact mem_split _ _ _ _)
    (fun st hst => by
      obtain ⟨s, n'⟩ := st
      obtain ⟨h1, h2, h3, h4⟩ := hst
      simp only at h1 h2 h3 h4
      subst h1
      refine ⟨s, ?_, h3, fun x => by rw [h4, List.take_length]⟩
      unfold braidref10_Sorted_L0
      rw [if_neg (by simp)])
    ([], 0) 0 (Nat.zero_le _) ⟨rfl, Nat.zero_le _, rfl, by simp⟩
  obtain ⟨s, h1, h2, h3⟩ := main
  refine ⟨s, ?_, h2, h3⟩
  unfold braidref10_Sorted
  rw [h1]
  simp only [bS]
theorem preds10_eq (E : GoodE g) {x : ID} (hx : x ∈ g.IDs) : braidref10_preds g x = some (opAt g (g.IDs.idxOf x)) := by
  have hlen := E.len
  have hids := E.ids
  have hk : g.IDs.idxOf x < g.Ops.length := by rw [← E.ids]; exact List.idxOf_lt_length_of_mem hx
  obtain ⟨k, h1, h2⟩ := at_eq g.IDs x (by omega)
  unfold braidref10_preds
  rw [h1]
  simp only [bS]
  rcases h2 with ⟨rfl, h2⟩ | ⟨i, rfl, hi, rfl⟩
  · exact absurd hx h2
  · rw [idxOf_at E.ri hi, idx_nat (by omega), opAt_get (by omega)]
    simp only [bS]
theorem before_eq (E : GoodE g) (h : allIn g = true) {x : ID} (hx : x ∈ g.IDs) : ∃ s, braidref10_Before g x = some s ∧ incr s = true ∧ ∀ y, y ∈ s ↔ y ∈ g.IDs ∧ Rch (preds g) (preds g (g.IDs.idxOf x)) (g.IDs.idxOf y) := by
  have hlen := E.len
  have hids := E.ids
  have h4 := E.four (g.IDs.idxOf x)
  have main := iter_inv (F := braidref10_Before_L0 g)
    (fun st => st.1.Nodup ∧ (∀ y ∈ st.1, y ∈ g.IDs ∧ Rch (preds g) (preds g (g.IDs.idxOf x)) (g.IDs.idxOf y)) ∧ (∀ y ∈ st.2, y ∈ g.IDs ∧ Rch (preds g) (preds g (g.IDs.idxOf x)) (g.IDs.idxOf y)) ∧
      (∀ y ∈ opAt g (g.IDs.idxOf x), y ∈ st.1 ∨ y ∈ st.2) ∧ (∀ y ∈ st.1, ∀ z ∈ opAt g (g.IDs.idxOf y), z ∈ st.1 ∨ z ∈ st.2) ∧ 4 * st.1.length + 4 ≥ st.2.length)
    (fun st => 5 * (g.IDs.length - st.1.length) + st.2.length)
    (fun s => s.Nodup ∧ s.length ≤ 60 ∧ ∀ y, y ∈ s ↔ y ∈ g.IDs ∧ Rch (preds g) (preds g (g.IDs.idxOf x)) (g.IDs.idxOf y))
    (fun st hst => by
      obtain ⟨seen, todo⟩ := st
      obtain ⟨a1, a2, a3, a4, a5, a6⟩ := hst
      simp only at a1 a2 a3 a4 a5 a6
      have hsl : seen.length ≤ g.IDs.length := nodup_le _ _ a1 fun y hy => (a2 y hy).1
      cases todo with
      | nil =>
        left
        refine ⟨seen, ?_, a1, by omega, fun y => ⟨fun hy => a2 y hy, fun hy => ?_⟩⟩
        · unfold braidref10_Before_L0
          rw [if_neg (by simp)]
        · obtain ⟨hy1, hy2⟩ := hy
          have : ∀ i, Rch (preds g) (preds g (g.IDs.idxOf x)) i → idAt g i ∈ seen := by
            intro i hi
            induction hi with
            | base hb =>
              unfold preds at hb
              rw [List.mem_map] at hb
              obtain ⟨z, hz, rfl⟩ := hb
              rw [idAt_idx (allIn_at h _ z hz)]
              exact (a4 z hz).resolve_right (by simp)
            | @step i _ _ hp ih =>
              unfold preds at hp
              rw [List.mem_map] at hp
              obtain ⟨z, hz, rfl⟩ := hp
              rw [idAt_idx (allIn_at h _ z hz)]
              have hin := (a2 _ ih).1
              have := a5 _ ih z (by
                by_cases hig : i < g.Ops.length
                · rw [idx_idAt E hig]; exact hz
                · unfold opAt at hz; rw [List.getElem?_eq_none (by omega)] at hz; simp at hz)
              exact this.resolve_right (by simp)
          have := this _ hy2
          rwa [idAt_idx hy1] at this
      | cons z todo =>
        right
        have hz := a3 z (by simp)
        obtain ⟨k, k1, k2⟩ := at_neg seen z (by omega)
        have hp4 := E.four (g.IDs.idxOf z)
        simp only [List.length_cons] at a6
        by_cases hm : z ∈ seen
        · rw [decide_eq_true hm] at k2
          refine ⟨(seen, todo), ?_, ⟨a1, a2, fun y hy => a3 y (by simp [hy]), fun y hy => ?_, fun y hy w hw => ?_, by simp only []; omega⟩, by simp only [List.length_cons]; omega⟩
          · unfold braidref10_Before_L0
            rw [if_pos (by simp)]
            simp only []
            rw [show (0 : Int) = ((0 : Nat) : Int) from rfl, idx_nat (by simp), show (1 : Int) = ((1 : Nat) : Int) from rfl, cut_eq (by simp) (by omega)]
            simp only [bS, List.getElem_cons_zero]
            rw [k1]
            simp only [bS]
            rw [show ((0 : Nat) : Int) = 0 from rfl, k2, if_neg (by simp)]
            simp
          · rcases a4 y hy with h | h
            · exact .inl h
            · rcases List.mem_cons.1 h with rfl | h
              · exact .inl hm
              · exact .inr h
          · rcases a5 y hy w hw with h | h
            · exact .inl h
            · rcases List.mem_cons.1 h with rfl | h
              · exact .inl hm
              · exact .inr h
        · rw [decide_eq_false hm] at k2
          have hn1 : (seen ++ [z]).Nodup := by
            rw [List.nodup_append]
            exact ⟨a1, by simp, fun a ha b hb e => by rw [List.mem_singleton] at hb; subst hb; exact hm (e ▸ ha)⟩
          have hsl2 : (seen ++ [z]).length ≤ g.IDs.length := nodup_le _ _ hn1 fun y hy => by
            rcases List.mem_append.1 hy with h | h
            · exact (a2 y h).1
            · rw [List.mem_singleton] at h; subst h; exact hz.1
          rw [List.length_append, List.length_singleton] at hsl2
          refine ⟨(seen ++ [z], todo ++ opAt g (g.IDs.idxOf z)), ?_, ⟨hn1, fun y hy => ?_, fun y hy => ?_, fun y hy => ?_, fun y hy w hw => ?_, by simp only [List.length_append, List.length_singleton]; omega⟩, by simp only [List.length_append, List.length_singleton, List.length_cons]; omega⟩
          · unfold braidref10_Before_L0
            rw [if_pos (by simp)]
            simp only []
            rw [show (0 : Int) = ((0 : Nat) : Int) from rfl, idx_nat (by simp), show (1 : Int) = ((1 : Nat) : Int) from rfl, cut_eq (by simp) (by omega)]
            simp only [bS, List.getElem_cons_zero]
            rw [k1]
            simp only [bS]
            rw [show ((0 : Nat) : Int) = 0 from rfl, k2, if_pos (by simp), app_eq (by simp; omega), preds10_eq E hz.1]
            simp only [bS]
            have et : ((z :: todo).drop 1).take ((z :: todo).length - 1) = todo := by simp
            rw [et, app_eq (by omega)]
            simp only [bS]
          · rcases List.mem_append.1 hy with h | h
            · exact a2 y h
            · rw [List.mem_singleton] at h; subst h; exact hz
          · rcases List.mem_append.1 hy with h' | h'
            · exact a3 y (by simp [h'])
            · exact ⟨allIn_at h _ y h', .step hz.2 (List.mem_map.2 ⟨y, h', rfl⟩)⟩
          · rcases a4 y hy with h | h
            · exact .inl (List.mem_append.2 (.inl h))
            · rcases List.mem_cons.1 h with rfl | h
              · exact .inl (by simp)
              · exact .inr (List.mem_append.2 (.inl h))
          · rcases List.mem_append.1 hy with h | h
            · rcases a5 y h w hw with h | h
              · exact .inl (List.mem_append.2 (.inl h))
              · rcases List.mem_cons.1 h with rfl | h
                · exact .inl (by simp)
                · exact .inr (List.mem_append.2 (.inl h))
            · rw [List.mem_singleton] at h; subst h
              exact .inr (List.mem_append.2 (.inr hw)))
    ([], opAt g (g.IDs.idxOf x)) ⟨by simp, by simp, fun y hy => ⟨allIn_at h _ y hy, .base (List.mem_map.2 ⟨y, hy, rfl⟩)⟩, fun y hy => .inr hy, by simp, by simp only [List.length_nil]; omega⟩
  obtain ⟨r, h1, h2, h3, h5⟩ := main
  obtain ⟨s, s1, s2, s3⟩ := sorted10_eq r (by omega)
  refine ⟨s, ?_, s2, fun y => (s3 y).trans (h5 y)⟩
  unfold braidref10_Before
  rw [preds10_eq E hx]
  simp only [bS]
  rw [app_eq (by simp; omega)]
  simp only [bS, List.nil_append]
  rw [h1]
  simp only [bS]
  rw [s1]
  simp only [bS]
end Go.Proofs.YtjnheeekdadcpaaGreatDoor
namespace Go.Proofs.YtjnheeekdadcpaaGreatDoor
open Go
set_option linter.unusedSimpArgs false
set_option linter.unusedVariables false
variable {g : api_Graph}
theorem look_bad {c : Int} (h : dag_Check g = some c) (hc : c ≠ 0) (x : ID) : ancestry_look g x = some (0, c) := by
  unfold ancestry_look
  rw [h]
  simp only [bS]
  rw [if_pos (by simpa using hc)]
theorem look_ok (G : GoodG g) (h : dag_Check g = some 0) (x : ID) : ancestry_look g x = some (if x ∈ g.IDs then ((g.IDs.idxOf x : Int), 0) else (0, 6)) := by
  have hlen := G.e.len
  have hids := G.e.ids
  obtain ⟨k, h1, h2, h3⟩ := find_in g.IDs (by omega) G.e.ri x
  unfold ancestry_look
  rw [h]
  simp only [bS]
  rw [if_neg (by simp), h1]
  simp only [bS]
  by_cases hx : x ∈ g.IDs
  · rw [decide_eq_true hx, if_neg (by simp), if_pos hx, (h2 hx).1]
  · rw [decide_eq_false hx, if_pos (by simp), if_neg hx]
theorem asked_bad {c : Int} (h : braidref09_Check g = some c) (hc : c ≠ 0) (xs : List ID) : braidref10_asked g xs = some c := by
  unfold braidref10_asked
  rw [h]
  simp only [bS]
  rw [if_pos (by simpa using hc)]
theorem asked_ok (G : GoodG g) (h : braidref09_Check g = some 0) (xs : List ID) (hl : xs.length ≤ 10) : braidref10_asked g xs = some (if (xs.all fun x => decide (x ∈ g.IDs)) then 0 else 6) := by
  have hlen := G.e.len
  have hids := G.e.ids
  unfold braidref10_asked
  rw [h]
  simp only [bS]
  rw [if_neg (by simp), all_eq _ _ (by omega) (by omega)]
  simp only [bS]
  cases xs.all fun x => decide (x ∈ g.IDs) <;> rfl
theorem idxOf_lt (G : GoodG g) {x : ID} (h : x ∈ g.IDs) : g.IDs.idxOf x < g.Ops.length := by rw [← G.e.ids]; exact List.idxOf_lt_length_of_mem h
theorem len_ids {s : List ID} (hs : incr s = true) (h : ∀ y ∈ s, y ∈ g.IDs) : s.length ≤ g.IDs.length := nodup_le _ _ (incr_nodup hs) h
theorem anc_core (G : GoodG g) {x : ID} (hx : x ∈ g.IDs) : ∃ s m, braidref10_Before g x = some s ∧ ancestry_reach g (opAt g (g.IDs.idxOf x)) = some (tab g.Ops.length m) ∧ ancestry_marked g (tab g.Ops.length m) = some s ∧ s.length ≤ 60 ∧ ∀ y ∈ g.IDs, (y ∈ s ↔ m (g.IDs.idxOf y) = true) := by
  have hlen := G.e.len
  have hids := G.e.ids
  have h4 := G.e.four (g.IDs.idxOf x)
  obtain ⟨s, b1, b2, b3⟩ := before_eq G.e G.ins hx
  obtain ⟨m, r1, r2⟩ := reach_eq G.e G.ins (opAt g (g.IDs.idxOf x)) (allIn_at G.ins _) (by omega)
  have hsm : s = marksOf g m := by
    refine rising_unique _ _ ((incr_pw _).1 b2) ((incr_pw _).1 (marksOf_incr G.e m)) fun y => ?_
    rw [b3, marksOf_mem G.e, r2]; rfl
  have hl := len_ids (g := g) b2 fun y hy => ((b3 y).1 hy).1
  refine ⟨s, m, b1, r1, by rw [hsm]; exact marked_eq G.e m, by omega, fun y hy => ?_⟩
  rw [hsm, marksOf_mem G.e]
  exact ⟨fun h => h.2, fun h => ⟨hy, h⟩⟩
theorem ancestors_eq {c : Int} (h1 : dag_Check g = some c) (h2 : braidref09_Check g = some c) (h3 : c = 0 ↔ GoodG g) (x : ID) : ∃ r, ancestry_Ancestors g x = some r ∧ braidref10_Ancestors g x = some r ∧ r.1.length ≤ 60 := by
  unfold ancestry_Ancestors braidref10_Ancestors
  by_cases hc : c = 0
  · subst hc
    have G := h3.1 rfl
    rw [look_ok G h1, asked_ok G h2 _ (by simp)]
    simp only [bS]
    have hax : ([x].all fun x => decide (x ∈ g.IDs)) = decide (x ∈ g.IDs) := by simp
    rw [hax]
    have d0 : ((0 : Int) != 0) = false := rfl
    by_cases hx : x ∈ g.IDs
    · obtain ⟨s, m, b1, r1, m1, l1, _⟩ := anc_core G hx
      have hk := idxOf_lt G hx
      rw [if_pos hx, decide_eq_true hx]
      simp only [if_true, d0, Bool.false_eq_true, if_false]
      rw [idx_nat hk]
      simp only [bS]
      rw [← opAt_get hk, r1]
      simp only [bS]
      rw [m1, b1]
      exact ⟨(s, 0), rfl, rfl, l1⟩
    · rw [if_neg hx, decide_eq_false hx]
      exact ⟨([], 6), rfl, rfl, by simp⟩
  · rw [look_bad h1 hc, asked_bad h2 hc]
    simp only [bS]
    have : (c != 0) = true := by simpa using hc
    rw [this]
    exact ⟨([], c), rfl, rfl, by simp⟩
theorem is10_eq {c : Int} (h1 : dag_Check g = some c) (h2 : braidref09_Check g = some c) (h3 : c = 0 ↔ GoodG g) (y x : ID) : ∃ r, ancestry_Is g y x = some r ∧ braidref10_Is g y x = some r := by
  unfold ancestry_Is braidref10_Is
  by_cases hc : c = 0
  · subst hc
    have G := h3.1 rfl
    have hlen := G.e.len
    rw [look_ok G h1, look_ok G h1, asked_ok G h2 _ (by simp)]
    simp only [bS]
    have hax : ([y, x].all fun x => decide (x ∈ g.IDs)) = (decide (y ∈ g.IDs) && decide (x ∈ g.IDs)) := by simp
    rw [hax]
    have d0 : ((0 : Int) != 0) = false := rfl
    by_cases hy : y ∈ g.IDs
    · by_cases hx : x ∈ g.IDs
      · obtain ⟨s, m, b1, r1, m1, l1, e1⟩ := anc_core G hx
        have hk := idxOf_lt G hx
        have hky := idxOf_lt G hy
        obtain ⟨k, k1, k2⟩ := at_neg s y (by omega)
        have hk0 : decide (0 ≤ k) = m (g.IDs.idxOf y) := by
          have e2 := e1 y hy
          have : decide (0 ≤ k) = decide (y ∈ s) := by
            by_cases hm : y ∈ s
            · rw [decide_eq_true hm] at k2 ⊢; simp at k2 ⊢; omega
            · rw [decide_eq_false hm] at k2 ⊢; simp at k2 ⊢; omega
          rw [this, Bool.eq_iff_iff, decide_eq_true_iff, e2]
        rw [if_pos hx, if_pos hy, decide_eq_true hx, decide_eq_true hy]
        simp only [if_true, d0, Bool.false_eq_true, if_false, Bool.and_self]
        rw [idx_nat hk]
        simp only [bS]
        rw [← opAt_get hk, r1]
        simp only [bS]
        rw [tab_idx hky, b1]
        simp only [bS]
        rw [k1]
        simp only [bS]
        rw [hk0]
        exact ⟨(m (g.IDs.idxOf y), 0), rfl, rfl⟩
      · rw [if_pos hy, if_neg hx, decide_eq_false hx, Bool.and_false]
        exact ⟨(false, 6), rfl, rfl⟩
    · rw [if_neg hy, decide_eq_false hy, Bool.false_and]
      exact ⟨(false, 6), rfl, rfl⟩
  · rw [look_bad h1 hc, look_bad h1 hc, asked_bad h2 hc]
    simp only [bS]
    have : (c != 0) = true := by simpa using hc
    rw [this]
    exact ⟨(false, c), rfl, rfl⟩
def top (g : api_Graph) (i x : Nat) : Bool := (List.range i).all fun k => !decide (x ∈ preds g k)
theorem top_succ (i x : Nat) : top g (i + 1) x = (top g i x && !decide (x ∈ preds g i)) := by
  unfold top; rw [List.range_succ, List.all_append]; simp
theorem heads_L4 (E : GoodE g) (h : allIn g = true) {r : List (ID × Int)} (hr : Places g r) {i : Nat} (hi : i < g.Ops.length) (m : Nat → Bool) : iter (ancestry_Heads_L4 r g.Ops[i]) (tab g.Ops.length m, 0) = some (tab g.Ops.length fun x => m x && !decide (x ∈ preds g i)) := by
  have hlen := E.len
  have h4 := (E.op i hi).1
  have hpl : (preds g i).length = g.Ops[i].Preds.length := by unfold preds; rw [opAt_get hi]; simp
  have := iter_run (F := ancestry_Heads_L4 r g.Ops[i]) (b := tab g.Ops.length fun x => m x && !decide (x ∈ preds g i)) g.Ops[i].Preds.length (fun j => (tab g.Ops.length (fun x => m x && !decide (x ∈ (preds g i).take j)), (j : Int))) (fun j hj => ?_) ?_
  · simpa using this
  · have hin : g.Ops[i].Preds[j] ∈ g.IDs := allIn_at h i _ (by rw [opAt_get hi]; exact List.getElem_mem hj)
    have hk : g.IDs.idxOf g.Ops[i].Preds[j] < g.Ops.length := by rw [← E.ids]; exact List.idxOf_lt_length_of_mem hin
    have hpj : (preds g i)[j]'(by omega) = g.IDs.idxOf g.Ops[i].Preds[j] := by
      unfold preds
      simp only [opAt_get hi, List.getElem_map]
    unfold ancestry_Heads_L4
    rw [if_pos (by simpa using hj)]
    simp only []
    rw [idx_nat hj]
    simp only [bS]
    rw [hr _ hin, tab_idx hk]
    simp only [bS, Int.toNat_natCast]
    rw [w64_nat (by omega)]
    have hset : (tab g.Ops.length (fun x => m x && !decide (x ∈ (preds g i).take j))).set (g.IDs.idxOf g.Ops[i].Preds[j]) false = tab g.Ops.length (fun x => m x && !decide (x ∈ (preds g i).take (j + 1))) := by
      refine tab_set hk ?_ fun x hx hne => ?_
      · have : g.IDs.idxOf g.Ops[i].Preds[j] ∈ (preds g i).take (j + 1) := by
          rw [List.take_add_one, List.getElem?_eq_getElem (by omega), hpj]
          exact List.mem_append.2 (.inr (List.mem_singleton.2 rfl))
        rw [decide_eq_true this]; simp
      · have : (x ∈ (preds g i).take (j + 1)) ↔ (x ∈ (preds g i).take j) := by
          rw [List.take_add_one, List.getElem?_eq_getElem (by omega), hpj, List.mem_append]
          exact ⟨fun h => h.resolve_right fun e => hne (List.mem_singleton.1 e), .inl⟩
        simp only [this]
    rw [hset]
  · unfold ancestry_Heads_L4
    rw [if_neg (by simp), ← hpl, List.take_length]
theorem heads_core (E : GoodE g) (h : allIn g = true) {r : List (ID × Int)} (hr : Places g r) : iter (ancestry_Heads_L2 g r) (tab g.Ops.length (fun _ => true), 0) = some (tab g.Ops.length (top g g.Ops.length)) := by
  have hlen := E.len
  have := iter_run (F := ancestry_Heads_L2 g r) (b := tab g.Ops.length (top g g.Ops.length)) g.Ops.length (fun i => (tab g.Ops.length (top g i), (i : Int))) (fun i hi => ?_) ?_
  · have e0 : top g 0 = fun _ => true := by funext x; unfold top; simp
    rw [e0] at this; exact this
  · unfold ancestry_Heads_L2
    rw [if_pos (by simpa using hi)]
    simp only []
    rw [idx_nat hi]
    simp only [bS]
    rw [heads_L4 E h hr hi, w64_nat (by omega)]
    simp only [bS]
    have : (fun x => top g i x && !decide (x ∈ preds g i)) = top g (i + 1) := by funext x; rw [top_succ]
    rw [this]
  · unfold ancestry_Heads_L2
    rw [if_neg (by simp)]
theorem trues (n : Nat) (h : n ≤ 1000) : iter (ancestry_Heads_L0 (List.replicate n false)) (List.replicate n false, 0) = some (tab n fun _ => true) := by
  have := iter_run (F := ancestry_Heads_L0 (List.replicate n false)) (b := tab n fun _ => true) n (fun i => (tab n (fun x => decide (x < i)), (i : Int))) (fun i hi => ?_) ?_
  · have e0 : tab n (fun x => decide (x < 0)) = List.replicate n false := by
      rw [tab_const]; exact tab_congr fun j _ => by simp
    rw [e0] at this; exact this
  · unfold ancestry_Heads_L0
    rw [if_pos (by simpa using hi)]
    simp only []
    rw [tab_idx hi, w64_nat (by omega)]
    simp only [bS, Int.toNat_natCast]
    rw [tab_set (g := fun x => decide (x < i + 1)) hi (by simp) (fun j _ hj => by
      rw [decide_eq_decide]; omega)]
  · unfold ancestry_Heads_L0
    rw [if_neg (by simp)]
    simp only []
    rw [tab_congr (f := fun x => decide (x < n)) (g := fun _ => true) fun j hj => by simpa using hj]
theorem allPreds (E : GoodE g) : ∃ l, iter (braidref10_Top_L0 g) ([], 0) = some l ∧ l.length ≤ 240 ∧ ∀ x, x ∈ l ↔ ∃ i, i < g.Ops.length ∧ x ∈ opAt g i := by
  have hlen := E.len
  have main := iter_up (F := braidref10_Top_L0 g) g.Ops.length
    (fun i st => st.2 = (i : Int) ∧ st.1.length ≤ 4 * i ∧ ∀ x, x ∈ st.1 ↔ ∃ k, k < i ∧ x ∈ opAt g k)
    (fun l => l.length ≤ 240 ∧ ∀ x, x ∈ l ↔ ∃ i, i < g.Ops.length ∧ x ∈ opAt g i)
    (fun i st hi hst => by
      obtain ⟨l, i'⟩ := st
      obtain ⟨h1, h2, h3⟩ := hst
      simp only at h1 h2 h3
      subst h1
      have h4 := (E.op i hi).1
      refine ⟨(l ++ g.Ops[i].Preds, ((i + 1 : Nat) : Int)), ?_, rfl, ?_, fun x => ?_⟩
      · unfold braidref10_Top_L0
        rw [if_pos (by simpa using hi)]
        simp only []
        rw [idx_nat hi]
        simp only [bS]
        rw [app_eq (by omega), w64_nat (by omega)]
        simp only [bS]
      · simp only [List.length_append]; omega
      · simp only []
        rw [List.mem_append, h3, ← opAt_get hi]
        constructor
        · rintro (⟨k, hk, hx⟩ | hx)
          · exact ⟨k, by omega, hx⟩
          · exact ⟨i, by omega, hx⟩
        · rintro ⟨k, hk, hx⟩
          by_cases hki : k = i
          · subst hki; exact .inr hx
          · exact .inl ⟨k, by omega, hx⟩)
    (fun st hst => by
      obtain ⟨l, i'⟩ := st
      obtain ⟨h1, h2, h3⟩ := hst
      simp only at h1 h2 h3
      subst h1
      refine ⟨l, ?_, by omega, h3⟩
      unfold braidref10_Top_L0
      rw [if_neg (by simp)])
    ([], 0) 0 (Nat.zero_le _) ⟨rfl, by simp, by simp⟩
  obtain ⟨l, h1, h2, h3⟩ := main
  exact ⟨l, h1, h2, h3⟩
theorem top_ids (E : GoodE g) (h : allIn g = true) {l : List ID} (hl : ∀ x, x ∈ l ↔ ∃ i, i < g.Ops.length ∧ x ∈ opAt g i) {i : Nat} (hi : i < g.Ops.length) : decide (idAt g i ∈ l) = !top g g.Ops.length i := by
  rw [Bool.eq_iff_iff, decide_eq_true_iff, hl]
  unfold top
  rw [Bool.not_eq_true', ← Bool.not_eq_true, List.all_eq_true]
  constructor
  · rintro ⟨k, hk, hx⟩ hall
    have := hall k (by simpa using hk)
    have hm := (preds_id h hx).2
    rw [idx_idAt E hi] at hm
    simp [hm] at this
  · intro hall
    refine Classical.byContradiction fun hn => hall fun k hk => ?_
    rw [List.mem_range] at hk
    rw [Bool.not_eq_true', decide_eq_false_iff_not]
    intro hm
    unfold preds at hm
    rw [List.mem_map] at hm
    obtain ⟨y, hy, e⟩ := hm
    refine hn ⟨k, hk, ?_⟩
    have := idAt_idx (allIn_at h k y hy)
    rw [e] at this
    rw [this]; exact hy
theorem top10_eq (E : GoodE g) (h : allIn g = true) : braidref10_Top g = some (marksOf g (top g g.Ops.length)) := by
  have hlen := E.len
  have hids := E.ids
  obtain ⟨l, l1, l2, l3⟩ := allPreds E
  have hl : ∀ i, i ≤ g.Ops.length → (((List.range i).filter (top g g.Ops.length)).map (idAt g)).length ≤ 60 := fun i hi => by
    have := List.length_filter_le (top g g.Ops.length) (List.range i)
    simp at this ⊢; omega
  have : iter (braidref10_Top_L2 g) (l, [], 0) = some (marksOf g (top g g.Ops.length)) := by
    have := iter_run (F := braidref10_Top_L2 g) (b := marksOf g (top g g.Ops.length)) g.Ops.length (fun i => (l, ((List.range i).filter (top g g.Ops.length)).map (idAt g), (i : Int))) (fun i hi => ?_) ?_
    · simpa using this
    · have hii : i < g.IDs.length := by omega
      have hli := hl i (by omega)
      obtain ⟨k, k1, k2⟩ := at_neg l g.IDs[i] (by omega)
      have e2 := top_ids E h l3 hi
      rw [idAt_get hii] at e2
      unfold braidref10_Top_L2
      rw [if_pos (by simp; omega)]
      simp only []
      rw [idx_nat hii]
      simp only [bS]
      rw [k1]
      simp only [bS]
      rw [k2, e2, List.range_succ, List.filter_append, List.map_append, w64_nat (by omega), Bool.not_not]
      cases hm : top g g.Ops.length i with
      | true =>
        rw [if_pos rfl, app_eq (by simp only [List.length_cons, List.length_nil]; omega), List.filter_cons_of_pos (by exact hm), ← idAt_get hii]
        simp only [bS]; rfl
      | false =>
        rw [if_neg (by simp), List.filter_cons_of_neg (by rw [hm]; simp)]
        simp
    · unfold braidref10_Top_L2
      rw [if_neg (by simp; omega)]; rfl
  unfold braidref10_Top
  rw [l1]
  simp only [bS]
  rw [this]
  simp only [bS]
theorem heads_eq {c : Int} (h1 : dag_Check g = some c) (h2 : braidref09_Check g = some c) (h3 : c = 0 ↔ GoodG g) : ∃ r, ancestry_Heads g = some r ∧ braidref10_Heads g = some r ∧ r.1.length ≤ 60 := by
  unfold ancestry_Heads braidref10_Heads
  rw [h1, h2]
  simp only [bS]
  by_cases hc : c = 0
  · subst hc
    have G := h3.1 rfl
    have hlen := G.e.len
    have hids := G.e.ids
    obtain ⟨r, p1, p2⟩ := places_eq G.e
    have hl := len_ids (g := g) (marksOf_incr G.e (top g g.Ops.length)) fun y hy => ((marksOf_mem G.e).1 hy).1
    have d0 : ((0 : Int) != 0) = false := rfl
    simp only [d0, Bool.false_eq_true, if_false]
    rw [p1, top10_eq G.e G.ins]
    simp only [bS]
    rw [mkn_eq (by omega) (by omega), hids]
    simp only [bS]
    rw [trues _ (by omega)]
    simp only [bS]
    rw [heads_core G.e G.ins p2]
    simp only [bS]
    rw [marked_eq G.e]
    exact ⟨_, rfl, rfl, by simp only []; omega⟩
  · have : (c != 0) = true := by simpa using hc
    rw [this]
    exact ⟨([], c), rfl, rfl, by simp⟩
end Go.Proofs.YtjnheeekdadcpaaGreatDoor
namespace Go.Proofs.YtjnheeekdadcpaaGreatDoor
open Go
set_option linter.unusedSimpArgs false
set_option linter.unusedVariables false
variable {P : Nat → List Nat} {n : Nat}
def canTake (P : Nat → List Nat) (Q : List Nat) (i : Nat) : Bool := !decide (i ∈ Q) && decide (∀ p ∈ P i, p ∈ Q)
theorem canTake_iff {Q : List Nat} {i : Nat} : canTake P Q i = true ↔ i ∉ Q ∧ ∀ p ∈ P i, p ∈ Q := by
  unfold canTake; rw [Bool.and_eq_true, Bool.not_eq_true', decide_eq_false_iff_not, decide_eq_true_iff]
structure IsNext (P : Nat → List Nat) (n : Nat) (Q : List Nat) (i : Nat) : Prop where
  lt : i < n
  can : canTake P Q i = true
  least : ∀ j, j < i → canTake P Q j = false
inductive Greedy (P : Nat → List Nat) (n : Nat) : List Nat → Prop
  | nil : Greedy P n []
  | snoc {Q : List Nat} {i : Nat} : Greedy P n Q → IsNext P n Q i → Greedy P n (Q ++ [i])
theorem Greedy.got {Q : List Nat} (h : Greedy P n Q) : Got P n Q ∧ Topo P Q := by
  induction h with
  | nil => exact ⟨⟨by simp, by simp, by simp⟩, fun k hk => by simp at hk⟩
  | @snoc Q i _ hi ih =>
    obtain ⟨h1, h2⟩ := canTake_iff.1 hi.can
    refine ⟨⟨?_, fun x hx => ?_, fun x hx => ?_⟩, ih.2.snoc h2⟩
    · rw [List.nodup_append]
      exact ⟨ih.1.nodup, by simp, fun a ha b hb e => by rw [List.mem_singleton] at hb; subst hb; exact h1 (e ▸ ha)⟩
    · rcases List.mem_append.1 hx with h | h
      · exact ih.1.lt x h
      · rw [List.mem_singleton] at h; subst h; exact hi.lt
    · rcases List.mem_append.1 hx with h | h
      · exact ih.1.wf x h
      · rw [List.mem_singleton] at h; subst h; exact .mk _ fun p hp => ih.1.wf p (h2 p hp)
theorem least_of (f : Nat → Bool) : ∀ (m i : Nat), i ≤ m → f i = true → ∃ j, j ≤ m ∧ f j = true ∧ ∀ k, k < j → f k = false
  | 0, i, h, hf => ⟨0, Nat.le_refl _, by rw [show i = 0 by omega] at hf; exact hf, fun k hk => by omega⟩
  | m + 1, i, h, hf => by
    by_cases hm : ∃ i, i ≤ m ∧ f i = true
    · obtain ⟨i, h1, h2⟩ := hm
      obtain ⟨j, j1, j2, j3⟩ := least_of f m i h1 h2
      exact ⟨j, by omega, j2, j3⟩
    · refine ⟨i, h, hf, fun k hk => ?_⟩
      cases hfk : f k with
      | false => rfl
      | true => exact absurd ⟨k, by omega, hfk⟩ hm
theorem next_ex (hall : ∀ i, i < n → Wf P i) (hlt : ∀ i, ∀ p ∈ P i, p < n) {Q : List Nat} (hQ : Got P n Q) (hl : Q.length < n) : ∃ i, IsNext P n Q i := by
  have h1 : ¬ ∀ i, i < n → i ∈ Q := fun h => (full_iff hQ.nodup hQ.lt).2 h hl
  have key : ∀ i, Wf P i → i < n → i ∉ Q → ∃ j, j < n ∧ canTake P Q j = true := by
    intro i hi
    induction hi with
    | mk i hp ih =>
      intro hi hn
      by_cases h : ∀ p ∈ P i, p ∈ Q
      · exact ⟨i, hi, canTake_iff.2 ⟨hn, h⟩⟩
      · refine Classical.byContradiction fun hc => h fun p hp => ?_
        refine Decidable.byContradiction fun hpq => hc (ih p hp (hlt i p hp) hpq)
  have h2 : ∃ i, i < n ∧ i ∉ Q := Classical.byContradiction fun hc => h1 fun i hi => Decidable.byContradiction fun h => hc ⟨i, hi, h⟩
  obtain ⟨i, hi, hiQ⟩ := h2
  obtain ⟨j, hj, hc⟩ := key i (hall i hi) hi hiQ
  obtain ⟨k, k1, k2, k3⟩ := least_of (canTake P Q) j j (Nat.le_refl _) hc
  exact ⟨k, by omega, k2, k3⟩
def Wlk (P : Nat → List Nat) : Nat → Nat → Nat → Prop
  | 0, i, j => i = j
  | t + 1, i, j => ∃ p ∈ P i, Wlk P t p j
theorem Wlk.snoc : ∀ {t i j p : Nat}, Wlk P t i j → p ∈ P j → Wlk P (t + 1) i p
  | 0, i, j, p, h, hp => by
    have h : i = j := h
    subst h; exact ⟨p, hp, rfl⟩
  | t + 1, i, j, p, h, hp => by
    obtain ⟨q, hq, h⟩ := h
    exact ⟨q, hq, Wlk.snoc h hp⟩
theorem Wlk.last : ∀ {t i p : Nat}, Wlk P (t + 1) i p → ∃ j, Wlk P t i j ∧ p ∈ P j
  | 0, i, p, h => by
    obtain ⟨q, hq, h⟩ := h
    have h : q = p := h
    subst h; exact ⟨i, rfl, hq⟩
  | t + 1, i, p, h => by
    obtain ⟨q, hq, h⟩ := h
    obtain ⟨j, h1, h2⟩ := Wlk.last h
    exact ⟨j, ⟨q, hq, h1⟩, h2⟩
theorem Wlk.pre : ∀ {t i j : Nat} (s : Nat), Wlk P t i j → s ≤ t → ∃ k, Wlk P s i k
  | t, i, j, 0, h, hs => ⟨i, rfl⟩
  | 0, i, j, s + 1, h, hs => by omega
  | t + 1, i, j, s + 1, h, hs => by
    obtain ⟨q, hq, h⟩ := h
    obtain ⟨k, hk⟩ := Wlk.pre s h (by omega)
    exact ⟨k, q, hq, hk⟩
def IsDep (P : Nat → List Nat) (i d : Nat) : Prop := (∃ j, Wlk P d i j) ∧ ∀ t j, Wlk P t i j → t ≤ d
def IsMax (l : List Nat) (e : Nat → Nat) (d : Nat) : Prop := (∀ p ∈ l, e p + 1 ≤ d) ∧ (d = 0 ∨ ∃ p ∈ l, d = e p + 1)
theorem IsMax.nil (e : Nat → Nat) : IsMax [] e 0 := ⟨by simp, .inl rfl⟩
theorem IsMax.snoc {l : List Nat} {e : Nat → Nat} {d p : Nat} (h : IsMax l e d) : IsMax (l ++ [p]) e (max d (e p + 1)) := by
  obtain ⟨h1, h2⟩ := h
  refine ⟨fun q hq => ?_, ?_⟩
  · rcases List.mem_append.1 hq with h | h
    · have := h1 q h; omega
    · rw [List.mem_singleton] at h; subst h; omega
  · by_cases hc : d ≤ e p + 1
    · exact .inr ⟨p, List.mem_append.2 (.inr (by simp)), by omega⟩
    · rcases h2 with h2 | ⟨q, hq, h2⟩
      · omega
      · exact .inr ⟨q, List.mem_append.2 (.inl hq), by omega⟩
theorem IsMax.congr {l : List Nat} {e e' : Nat → Nat} {d : Nat} (h : IsMax l e d) (he : ∀ p ∈ l, e' p = e p) : IsMax l e' d :=
  ⟨fun p hp => by rw [he p hp]; exact h.1 p hp, h.2.imp id fun ⟨p, hp, h⟩ => ⟨p, hp, by rw [he p hp]; exact h⟩⟩
theorem IsDep.step {i d : Nat} {e : Nat → Nat} (h : ∀ p ∈ P i, IsDep P p (e p)) (hm : IsMax (P i) e d) : IsDep P i d := by
  obtain ⟨h1, h2⟩ := hm
  constructor
  · rcases h2 with rfl | ⟨p, hp, rfl⟩
    · exact ⟨i, rfl⟩
    · obtain ⟨⟨j, hj⟩, _⟩ := h p hp
      exact ⟨j, p, hp, hj⟩
  · intro t j hw
    cases t with
    | zero => exact Nat.zero_le _
    | succ t =>
      obtain ⟨p, hp, hw⟩ := hw
      have := (h p hp).2 t j hw
      have := h1 p hp
      omega
end Go.Proofs.YtjnheeekdadcpaaGreatDoor
namespace Go.Proofs.YtjnheeekdadcpaaGreatDoor
open Go
set_option linter.unusedSimpArgs false
set_option linter.unusedVariables false
variable {g : api_Graph}
theorem index_from {r : List (ID × Int)} (hr : Places g r) (E : GoodE g) (f : Nat → Bool) (ps : List ID) (hin : ∀ x ∈ ps, x ∈ g.IDs) (hl : ps.length ≤ 1000) : ∀ (rest pre : List ID), ps = pre ++ rest →
    ∃ b : Sum Int Unit, iter (slices_IndexFunc_api_ID_api_ID_ancestry_Order_1_1_L0 ps (tab g.Ops.length f) r) (pre.length : Int) = some b ∧ ((b = .inr () ∧ (rest.all fun x => f (g.IDs.idxOf x)) = true) ∨ ∃ i : Nat, b = .inl (i : Int) ∧ (rest.all fun x => f (g.IDs.idxOf x)) = false)
  | [], pre, e => by
    refine ⟨.inr (), iter_l ?_, .inl ⟨rfl, rfl⟩⟩
    unfold slices_IndexFunc_api_ID_api_ID_ancestry_Order_1_1_L0
    rw [if_neg (by rw [e]; simp)]
  | c :: rest, pre, e => by
    have hlen : pre.length < ps.length := by rw [e]; simp
    have hget : ps[pre.length]'hlen = c := by simp [e]
    have hc : c ∈ g.IDs := hin c (by rw [e]; simp)
    have hk : g.IDs.idxOf c < g.Ops.length := by rw [← E.ids]; exact List.idxOf_lt_length_of_mem hc
    have hF : slices_IndexFunc_api_ID_api_ID_ancestry_Order_1_1_L0 ps (tab g.Ops.length f) r (pre.length : Int) = if f (g.IDs.idxOf c) then some (.inr ((pre.length + 1 : Nat) : Int)) else some (.inl (.inl (pre.length : Int))) := by
      unfold slices_IndexFunc_api_ID_api_ID_ancestry_Order_1_1_L0 ancestry_Order_1_1
      rw [if_pos (by simpa using hlen), idx_nat hlen, hget, w64_nat (by omega)]
      simp only [bS]
      rw [hr c hc, tab_idx hk]
      simp only [bS]
      cases f (g.IDs.idxOf c) <;> rfl
    rw [List.all_cons]
    cases hf : f (g.IDs.idxOf c) with
    | false => rw [hf] at hF; exact ⟨_, iter_l hF, .inr ⟨_, rfl, rfl⟩⟩
    | true =>
      rw [hf] at hF
      rw [iter_r hF]
      obtain ⟨b, h1, h2⟩ := index_from hr E f ps hin hl rest (pre ++ [c]) (by simp [e])
      simp only [List.length_append, List.length_cons, List.length_nil, Nat.zero_add] at h1
      exact ⟨b, h1, by rw [Bool.true_and]; exact h2⟩
theorem contains_eq {r : List (ID × Int)} (hr : Places g r) (E : GoodE g) (f : Nat → Bool) (ps : List ID) (hin : ∀ x ∈ ps, x ∈ g.IDs) (hl : ps.length ≤ 1000) : slices_ContainsFunc_api_ID_api_ID_ancestry_Order_1_1 ps (tab g.Ops.length f) r = some (!(ps.all fun x => f (g.IDs.idxOf x))) := by
  obtain ⟨b, h1, h2⟩ := index_from hr E f ps hin hl ps [] rfl
  unfold slices_ContainsFunc_api_ID_api_ID_ancestry_Order_1_1 slices_IndexFunc_api_ID_api_ID_ancestry_Order_1_1
  rw [show (0 : Int) = (([] : List ID).length : Int) from rfl, h1]
  rcases h2 with ⟨rfl, h2⟩ | ⟨i, rfl, h2⟩
  · rw [h2]; rfl
  · rw [h2]
    simp only [or_l, bS]
    rw [decide_eq_true (by simp)]; rfl
theorem order1_eq {r : List (ID × Int)} (hr : Places g r) (E : GoodE g) (h : allIn g = true) (Q : List Nat) {i : Nat} (hi : i < g.Ops.length) : ancestry_Order_1 (i : Int) (tab g.Ops.length fun j => decide (j ∈ Q)) g r = some (canTake (preds g) Q i) := by
  have h4 := (E.op i hi).1
  unfold ancestry_Order_1
  rw [tab_idx hi, idx_nat hi]
  simp only [bS]
  rw [contains_eq hr E _ _ (by rw [← opAt_get hi]; exact allIn_at h i) (by omega)]
  simp only [bS, Bool.not_not]
  have : ((g.Ops[i]).Preds.all fun x => decide (g.IDs.idxOf x ∈ Q)) = decide (∀ p ∈ preds g i, p ∈ Q) := by
    rw [Bool.eq_iff_iff, List.all_eq_true, decide_eq_true_iff]
    unfold preds
    rw [opAt_get hi]
    constructor
    · intro hx p hp
      rw [List.mem_map] at hp
      obtain ⟨x, hx', rfl⟩ := hp
      simpa using hx x hx'
    · intro hp x hx
      rw [decide_eq_true_iff]
      exact hp _ (List.mem_map.2 ⟨x, hx, rfl⟩)
  rw [this]
  unfold canTake
  cases decide (i ∈ Q) <;> rfl
theorem orderL2 {r : List (ID × Int)} (hr : Places g r) (E : GoodE g) (h : allIn g = true) (Q : List Nat) (s : (List Bool) × (List ID) × Int) (hs : s.1 = tab g.Ops.length fun j => decide (j ∈ Q)) {i : Nat} (hi : IsNext (preds g) g.Ops.length Q i) : iter (ancestry_Order_L2 g r s) 0 = some (i : Int) := by
  have hlen := E.len
  have hlt := hi.lt
  have := iter_run (F := ancestry_Order_L2 g r s) (b := (i : Int)) i (fun k => (k : Int)) (fun k hk => ?_) ?_
  · exact this
  · unfold ancestry_Order_L2
    rw [hs, order1_eq hr E h Q (by omega), hi.least k hk, w64_nat (by omega)]
    rfl
  · unfold ancestry_Order_L2
    rw [hs, order1_eq hr E h Q hi.lt, hi.can]
    rfl
theorem order_ok (G : GoodG g) (h : dag_Check g = some 0) : ∃ Q, ancestry_Order g = some (Q.map (idAt g), 0) ∧ Greedy (preds g) g.Ops.length Q ∧ Q.length = g.Ops.length := by
  have E := G.e
  have hlen := E.len
  have hids := E.ids
  have hP := goodP E G.ins
  obtain ⟨r, r1, hr⟩ := places_eq E
  have main := iter_up (F := ancestry_Order_L0 g r) g.Ops.length
    (fun k s => ∃ Q, s = (tab g.Ops.length (fun j => decide (j ∈ Q)), Q.map (idAt g), (k : Int)) ∧ Greedy (preds g) g.Ops.length Q ∧ Q.length = k)
    (fun b => ∃ Q, b = Q.map (idAt g) ∧ Greedy (preds g) g.Ops.length Q ∧ Q.length = g.Ops.length)
    (fun k s hk hs => by
      obtain ⟨Q, rfl, h1, h2⟩ := hs
      obtain ⟨i, hi⟩ := next_ex G.wf hP.lt h1.got.1 (by omega)
      have hil := hi.lt
      have hii : i < g.IDs.length := by omega
      refine ⟨(tab g.Ops.length (fun j => decide (j ∈ Q ++ [i])), (Q ++ [i]).map (idAt g), ((k + 1 : Nat) : Int)), ?_, Q ++ [i], rfl, .snoc h1 hi, by simp [h2]⟩
      unfold ancestry_Order_L0
      rw [if_pos (by simp; omega), orderL2 hr E G.ins Q _ rfl hi]
      simp only [bS]
      rw [tab_idx hil, idx_nat hii]
      simp only [bS, Int.toNat_natCast]
      rw [app_eq (by rw [List.length_map]; simp only [List.length_cons, List.length_nil]; omega), w64_nat (by omega), tab_set (g := fun j => decide (j ∈ Q ++ [i])) hil (by simp) (fun j _ hj => by simp [hj]), List.map_append, ← idAt_get hii]
      simp only [bS]
      rfl)
    (fun s hs => by
      obtain ⟨Q, rfl, h1, h2⟩ := hs
      refine ⟨_, ?_, Q, rfl, h1, h2⟩
      unfold ancestry_Order_L0
      rw [if_neg (by simp; omega)])
    (List.replicate g.Ops.length false, [], ((0 : Nat) : Int)) 0 (Nat.zero_le _) ⟨[], by rw [tab_const]; simp, .nil, rfl⟩
  obtain ⟨b, b1, Q, rfl, b2, b3⟩ := main
  refine ⟨Q, ?_, b2, b3⟩
  unfold ancestry_Order
  rw [h, r1]
  simp only [bS]
  rw [if_neg (by simp), mkn_eq (by omega) (by omega), hids]
  simp only [bS]
  rw [show (0 : Int) = ((0 : Nat) : Int) from rfl, b1]
  rfl
def at1 (e : Nat → Nat) (a d : Nat) : Nat → Nat := fun i => if i = a then d else e i
theorem depthL2 {r : List (ID × Int)} (hr : Places g r) (E : GoodE g) (h : allIn g = true) {a : Nat} (ha : a < g.Ops.length) (hself : a ∉ preds g a) (e : Nat → Nat) (k : Nat) (hk : k ≤ 100) (he : ∀ i, e i ≤ k) (h0 : e a = 0) :
    ∃ d, iter (ancestry_Depth_L2 r (idAt g a) g.Ops[a]) (tab g.Ops.length (fun i => (e i : Int)), 0) = some (tab g.Ops.length fun i => (at1 e a d i : Int)) ∧ IsMax (preds g a) e d ∧ d ≤ k + 1 := by
  have hlen := E.len
  have hids := E.ids
  have h4 := (E.op a ha).1
  have hpl : (preds g a).length = g.Ops[a].Preds.length := by unfold preds; rw [opAt_get ha]; simp
  have hx : idAt g a ∈ g.IDs := by rw [idAt_get (by omega)]; exact List.getElem_mem _
  have hxa : g.IDs.idxOf (idAt g a) = a := idx_idAt E ha
  have main := iter_up (F := ancestry_Depth_L2 r (idAt g a) g.Ops[a]) g.Ops[a].Preds.length
    (fun j s => ∃ d, s = (tab g.Ops.length (fun i => (at1 e a d i : Int)), (j : Int)) ∧ IsMax ((preds g a).take j) e d ∧ d ≤ k + 1)
    (fun b => ∃ d, b = tab g.Ops.length (fun i => (at1 e a d i : Int)) ∧ IsMax (preds g a) e d ∧ d ≤ k + 1)
    (fun j s hj hs => by
      obtain ⟨d, rfl, h1, h2⟩ := hs
      have hin : g.Ops[a].Preds[j] ∈ g.IDs := allIn_at h a _ (by rw [opAt_get ha]; exact List.getElem_mem hj)
      have hkp : g.IDs.idxOf g.Ops[a].Preds[j] < g.Ops.length := by rw [← E.ids]; exact List.idxOf_lt_length_of_mem hin
      have hpj : (preds g a)[j]'(by omega) = g.IDs.idxOf g.Ops[a].Preds[j] := by
        unfold preds
        simp only [opAt_get ha, List.getElem_map]
      have hne : g.IDs.idxOf g.Ops[a].Preds[j] ≠ a := fun c => hself (by have hm : (preds g a)[j]'(by omega) ∈ preds g a := List.getElem_mem _; rw [hpj, c] at hm; exact hm)
      have hle := he (g.IDs.idxOf g.Ops[a].Preds[j])
      have hp1 : at1 e a d (g.IDs.idxOf g.Ops[a].Preds[j]) = e (g.IDs.idxOf g.Ops[a].Preds[j]) := if_neg hne
      have ha1 : at1 e a d a = d := if_pos rfl
      refine ⟨(tab g.Ops.length (fun i => (at1 e a (max d (e (g.IDs.idxOf g.Ops[a].Preds[j]) + 1)) i : Int)), ((j + 1 : Nat) : Int)), ?_, _, rfl, ?_, by omega⟩
      · unfold ancestry_Depth_L2
        rw [if_pos (by simpa using hj)]
        simp only []
        rw [idx_nat hj]
        simp only [bS]
        rw [hr _ hx, hr _ hin, hxa, tab_idx ha, tab_idx hkp, ha1, hp1]
        simp only [bS, Int.toNat_natCast]
        rw [w64_nat (by omega), w64_nat (by omega), tab_set (g := fun i => (at1 e a (max d (e (g.IDs.idxOf g.Ops[a].Preds[j]) + 1)) i : Int)) ha]
        · show ((if a = a then _ else _ : Nat) : Int) = _
          rw [if_pos rfl]; omega
        · intro i _ hia
          show ((if i = a then _ else _ : Nat) : Int) = ((if i = a then _ else _ : Nat) : Int)
          rw [if_neg hia, if_neg hia]
      · have et : (preds g a).take (j + 1) = (preds g a).take j ++ [g.IDs.idxOf g.Ops[a].Preds[j]] := by
          rw [List.take_add_one, List.getElem?_eq_getElem (by omega), hpj]; rfl
        rw [et]
        exact h1.snoc)
    (fun s hs => by
      obtain ⟨d, rfl, h1, h2⟩ := hs
      refine ⟨_, ?_, d, rfl, ?_, h2⟩
      · unfold ancestry_Depth_L2
        rw [if_neg (by simp)]
      · rw [← hpl, List.take_length] at h1; exact h1)
    (tab g.Ops.length (fun i => (at1 e a 0 i : Int)), ((0 : Nat) : Int)) 0 (Nat.zero_le _) ⟨0, rfl, by rw [List.take_zero]; exact IsMax.nil e, by omega⟩
  obtain ⟨b, b1, d, rfl, b2, b3⟩ := main
  refine ⟨d, ?_, b2, b3⟩
  have e0 : at1 e a 0 = e := by
    funext i
    show (if i = a then 0 else e i) = e i
    by_cases hi : i = a
    · rw [if_pos hi, hi, h0]
    · rw [if_neg hi]
  rw [e0] at b1
  exact b1
theorem depthL0 {r : List (ID × Int)} (hr : Places g r) (E : GoodE g) (h : allIn g = true) {Q : List Nat} (hQ : Got (preds g) g.Ops.length Q) (hT : Topo (preds g) Q) :
    ∃ e : Nat → Nat, iter (ancestry_Depth_L0 g r (Q.map (idAt g), 0)) (List.replicate g.Ops.length 0, 0) = some (tab g.Ops.length fun i => (e i : Int)) ∧ (∀ i ∈ Q, IsDep (preds g) i (e i)) ∧ ∀ i, e i ≤ Q.length := by
  have hlen := E.len
  have hids := E.ids
  have hql := hQ.len
  have main := iter_up (F := ancestry_Depth_L0 g r (Q.map (idAt g), 0)) Q.length
    (fun k s => ∃ e : Nat → Nat, s = (tab g.Ops.length (fun i => (e i : Int)), (k : Int)) ∧ (∀ i ∈ Q.take k, IsDep (preds g) i (e i)) ∧ (∀ i, i ∉ Q.take k → e i = 0) ∧ ∀ i, e i ≤ k)
    (fun b => ∃ e : Nat → Nat, b = tab g.Ops.length (fun i => (e i : Int)) ∧ (∀ i ∈ Q, IsDep (preds g) i (e i)) ∧ ∀ i, e i ≤ Q.length)
    (fun k s hk hs => by
      obtain ⟨e, rfl, h1, h2, h3⟩ := hs
      have ha : Q[k] < g.Ops.length := hQ.lt _ (List.getElem_mem hk)
      have hnot : Q[k] ∉ Q.take k := by
        intro hm
        obtain ⟨j, hj, e⟩ := List.getElem_of_mem hm
        rw [List.getElem_take] at e
        rw [List.length_take] at hj
        have := nodup_inj hQ.nodup _ _ e
        omega
      have hTk := hT k hk
      have hx : idAt g Q[k] ∈ g.IDs := by rw [idAt_get (by omega)]; exact List.getElem_mem _
      have hxa : g.IDs.idxOf (idAt g Q[k]) = Q[k] := idx_idAt E ha
      obtain ⟨d, d1, d2, d3⟩ := depthL2 hr E h ha (fun hm => hnot (hTk _ hm)) e k (by omega) h3 (h2 _ hnot)
      have hdep : IsDep (preds g) Q[k] d := .step (fun p hp => h1 p (hTk p hp)) d2
      refine ⟨(tab g.Ops.length (fun i => (at1 e Q[k] d i : Int)), ((k + 1 : Nat) : Int)), ?_, _, rfl, fun i hi => ?_, fun i hi => ?_, fun i => ?_⟩
      · unfold ancestry_Depth_L0
        rw [if_pos (by rw [List.length_map]; simpa using hk)]
        simp only []
        rw [idx_nat (by rw [List.length_map]; exact hk), List.getElem_map]
        simp only [bS]
        rw [hr _ hx, hxa, idx_nat ha]
        simp only [bS]
        rw [d1, w64_nat (by omega)]
        simp only [bS]
      · rw [List.take_add_one, List.getElem?_eq_getElem hk, List.mem_append] at hi
        show IsDep _ _ (if i = Q[k] then d else e i)
        by_cases hik : i = Q[k]
        · rw [if_pos hik, hik]; exact hdep
        · rw [if_neg hik]
          exact h1 i (hi.resolve_right fun c => hik (List.mem_singleton.1 c))
      · rw [List.take_add_one, List.getElem?_eq_getElem hk, List.mem_append] at hi
        have hik : i ≠ Q[k] := fun c => hi (.inr (List.mem_singleton.2 c))
        show (if i = Q[k] then d else e i) = 0
        rw [if_neg hik]
        exact h2 i fun c => hi (.inl c)
      · show (if i = Q[k] then d else e i) ≤ k + 1
        split
        · exact d3
        · have := h3 i; omega)
    (fun s hs => by
      obtain ⟨e, rfl, h1, h2, h3⟩ := hs
      refine ⟨_, ?_, e, rfl, ?_, h3⟩
      · unfold ancestry_Depth_L0
        rw [if_neg (by rw [List.length_map]; simp)]
      · rw [List.take_length] at h1; exact h1)
    (List.replicate g.Ops.length 0, ((0 : Nat) : Int)) 0 (Nat.zero_le _) ⟨fun _ => 0, by rw [tab_const]; rfl, by rw [List.take_zero]; simp, fun _ _ => rfl, fun _ => Nat.le_refl _⟩
  obtain ⟨b, b1, e, rfl, b2⟩ := main
  exact ⟨e, b1, b2⟩
theorem depth_ok (G : GoodG g) (h : dag_Check g = some 0) {x : ID} (hx : x ∈ g.IDs) : ∃ d : Nat, ancestry_Depth g x = some ((d : Int), 0) ∧ IsDep (preds g) (g.IDs.idxOf x) d ∧ d ≤ 60 := by
  have E := G.e
  have hlen := E.len
  have hids := E.ids
  obtain ⟨r, r1, hr⟩ := places_eq E
  obtain ⟨Q, q1, q2, q3⟩ := order_ok G h
  obtain ⟨hQ, hT⟩ := q2.got
  obtain ⟨e, e1, e2, e3⟩ := depthL0 hr E G.ins hQ hT
  have hk := idxOf_lt G hx
  have hin : g.IDs.idxOf x ∈ Q := (full_iff hQ.nodup hQ.lt).1 (by omega) _ hk
  have e4 := e3 (g.IDs.idxOf x)
  refine ⟨e (g.IDs.idxOf x), ?_, e2 _ hin, by omega⟩
  unfold ancestry_Depth
  rw [look_ok G h, if_pos hx, r1, q1]
  simp only [bS]
  have d0 : ((0 : Int) != 0) = false := rfl
  simp only [d0, Bool.false_eq_true, if_false]
  rw [mkn_eq (by omega) (by omega), hids]
  simp only [bS]
  rw [e1]
  simp only [bS]
  rw [tab_idx hk]
  simp only [bS]
theorem deepL2 (E : GoodE g) (now : List ID) (t : Int) (hn : ∀ x ∈ now, x ∈ g.IDs) (hl : now.length ≤ 60) : ∃ l, iter (braidref10_Deep_L2 g (now, t)) ([], 0) = some l ∧ l.length ≤ 240 ∧ ∀ y, y ∈ l ↔ ∃ x ∈ now, y ∈ opAt g (g.IDs.idxOf x) := by
  have hlen := E.len
  have main := iter_up (F := braidref10_Deep_L2 g (now, t)) now.length
    (fun i st => st.2 = (i : Int) ∧ st.1.length ≤ 4 * i ∧ ∀ y, y ∈ st.1 ↔ ∃ x ∈ now.take i, y ∈ opAt g (g.IDs.idxOf x))
    (fun l => l.length ≤ 240 ∧ ∀ y, y ∈ l ↔ ∃ x ∈ now, y ∈ opAt g (g.IDs.idxOf x))
    (fun i st hi hst => by
      obtain ⟨l, i'⟩ := st
      obtain ⟨h1, h2, h3⟩ := hst
      simp only at h1 h2 h3
      subst h1
      have h4 := E.four (g.IDs.idxOf now[i])
      refine ⟨(l ++ opAt g (g.IDs.idxOf now[i]), ((i + 1 : Nat) : Int)), ?_, rfl, ?_, fun y => ?_⟩
      · unfold braidref10_Deep_L2
        rw [if_pos (by simpa using hi)]
        simp only []
        rw [idx_nat hi]
        simp only [bS]
        rw [preds10_eq E (hn _ (List.getElem_mem hi))]
        simp only [bS]
        rw [app_eq (by omega), w64_nat (by omega)]
        simp only [bS]
      · simp only [List.length_append]; omega
      · simp only []
        rw [List.mem_append, h3, List.take_add_one, List.getElem?_eq_getElem hi]
        constructor
        · rintro (⟨x, hx, hy⟩ | hy)
          · exact ⟨x, List.mem_append.2 (.inl hx), hy⟩
          · exact ⟨now[i], List.mem_append.2 (.inr (List.mem_singleton.2 rfl)), hy⟩
        · rintro ⟨x, hx, hy⟩
          rcases List.mem_append.1 hx with hx | hx
          · exact .inl ⟨x, hx, hy⟩
          · have : x = now[i] := List.mem_singleton.1 hx
            subst this; exact .inr hy)
    (fun st hst => by
      obtain ⟨l, i'⟩ := st
      obtain ⟨h1, h2, h3⟩ := hst
      simp only at h1 h2 h3
      subst h1
      rw [List.take_length] at h3
      refine ⟨l, ?_, by omega, h3⟩
      unfold braidref10_Deep_L2
      rw [if_neg (by simp)])
    ([], 0) 0 (Nat.zero_le _) ⟨rfl, by simp, by simp⟩
  obtain ⟨l, h1, h2, h3⟩ := main
  exact ⟨l, h1, h2, h3⟩
theorem deep_eq (E : GoodE g) (h : allIn g = true) {x : ID} (hx : x ∈ g.IDs) {d : Nat} (hd : IsDep (preds g) (g.IDs.idxOf x) d) (hd1 : d ≤ 1000) : braidref10_Deep g x = some (d : Int) := by
  have hlen := E.len
  have hids := E.ids
  have main := iter_inv (F := braidref10_Deep_L0 g)
    (fun s => ∃ t : Nat, s.2 = (t : Int) ∧ t ≤ d ∧ s.1 ≠ [] ∧ s.1.length ≤ 60 ∧ ∀ y, y ∈ s.1 ↔ y ∈ g.IDs ∧ Wlk (preds g) t (g.IDs.idxOf x) (g.IDs.idxOf y))
    (fun s => d - s.2.toNat)
    (fun b => b = (d : Int))
    (fun s hs => by
      obtain ⟨now, t'⟩ := s
      obtain ⟨t, h1, h2, h3, h4, h5⟩ := hs
      simp only at h1 h3 h4 h5
      subst h1
      obtain ⟨l, l1, l2, l3⟩ := deepL2 E now (t : Int) (fun y hy => ((h5 y).1 hy).1) h4
      have l4 : ∀ y, y ∈ l ↔ y ∈ g.IDs ∧ Wlk (preds g) (t + 1) (g.IDs.idxOf x) (g.IDs.idxOf y) := by
        intro y
        rw [l3]
        constructor
        · rintro ⟨z, hz, hy⟩
          obtain ⟨a1, a2⟩ := preds_id h hy
          exact ⟨a1, ((h5 z).1 hz).2.snoc a2⟩
        · rintro ⟨hy, hw⟩
          obtain ⟨j, hj, hp⟩ := hw.last
          have hjn : j < g.Ops.length := by
            refine Classical.byContradiction fun hc => ?_
            unfold preds opAt at hp
            rw [List.getElem?_eq_none (by omega)] at hp
            simp at hp
          have hjx : idAt g j ∈ g.IDs := by rw [idAt_get (by omega)]; exact List.getElem_mem _
          refine ⟨idAt g j, (h5 _).2 ⟨hjx, by rw [idx_idAt E hjn]; exact hj⟩, ?_⟩
          rw [idx_idAt E hjn]
          unfold preds at hp
          rw [List.mem_map] at hp
          obtain ⟨z, hz, e⟩ := hp
          have := idAt_idx (allIn_at h j z hz)
          rw [e, idAt_idx hy] at this
          rw [this]; exact hz
      by_cases hl : l = []
      · left
        refine ⟨(t : Int), ?_, ?_⟩
        · unfold braidref10_Deep_L0
          rw [l1, hl]
          rfl
        · have : t = d := by
            refine Nat.le_antisymm h2 (Nat.le_of_not_lt fun hc => ?_)
            obtain ⟨j, hj⟩ := hd.1
            obtain ⟨k, hk⟩ := Wlk.pre (t + 1) hj hc
            obtain ⟨q, hq, hp⟩ := hk.last
            have hkn : k < g.Ops.length := (goodP E h).lt q k hp
            have : idAt g k ∈ l := (l4 _).2 ⟨by rw [idAt_get (by omega)]; exact List.getElem_mem _, by rw [idx_idAt E hkn]; exact hk⟩
            rw [hl] at this; simp at this
          rw [this]
      · right
        obtain ⟨s, s1, s2, s3⟩ := sorted10_eq l (by omega)
        obtain ⟨y, hy⟩ := List.exists_mem_of_ne_nil l hl
        have hw := ((l4 y).1 hy).2
        have htd := hd.2 _ _ hw
        have hsl := len_ids (g := g) s2 fun z hz => ((l4 z).1 ((s3 z).1 hz)).1
        refine ⟨(s, ((t + 1 : Nat) : Int)), ?_, ⟨t + 1, rfl, htd, fun c => ?_, by simp only []; omega, fun z => (s3 z).trans (l4 z)⟩, by simp only [Int.toNat_natCast]; omega⟩
        · have hl0 : ((l.length : Int) == 0) = false := by
            have : l.length ≠ 0 := fun c => hl (List.length_eq_zero_iff.1 c)
            simp; exact hl
          unfold braidref10_Deep_L0
          rw [l1]
          simp only [bS]
          rw [hl0, s1]
          simp only [bS, Bool.false_eq_true, if_false]
          rw [w64_nat (by omega)]
        · simp only at c
          have := (s3 y).2 hy
          rw [c] at this; simp at this)
    ([x], 0) ⟨0, rfl, Nat.zero_le _, by simp, by simp, fun y => by
      rw [List.mem_singleton]
      constructor
      · rintro rfl; exact ⟨hx, rfl⟩
      · rintro ⟨hy, hw⟩
        have hw : g.IDs.idxOf x = g.IDs.idxOf y := hw
        exact idxOf_inj hx hw.symm⟩
  obtain ⟨b, h1, rfl⟩ := main
  unfold braidref10_Deep
  exact h1
theorem depth_eq {c : Int} (h1 : dag_Check g = some c) (h2 : braidref09_Check g = some c) (h3 : c = 0 ↔ GoodG g) (x : ID) : ∃ r, ancestry_Depth g x = some r ∧ braidref10_Depth g x = some r := by
  by_cases hc : c = 0
  · subst hc
    have G := h3.1 rfl
    have d0 : ((0 : Int) != 0) = false := rfl
    have d6 : ((6 : Int) != 0) = true := rfl
    have hax : ([x].all fun x => decide (x ∈ g.IDs)) = decide (x ∈ g.IDs) := by simp
    by_cases hx : x ∈ g.IDs
    · obtain ⟨d, e1, e2, e3⟩ := depth_ok G h1 hx
      refine ⟨_, e1, ?_⟩
      unfold braidref10_Depth
      rw [asked_ok G h2 _ (by simp), hax, decide_eq_true hx]
      simp only [bS, if_true, d0, Bool.false_eq_true, if_false]
      rw [deep_eq G.e G.ins hx e2 (by omega)]
      simp only [bS]
    · refine ⟨(0, 6), ?_, ?_⟩
      · unfold ancestry_Depth
        rw [look_ok G h1, if_neg hx]
        rfl
      · unfold braidref10_Depth
        rw [asked_ok G h2 _ (by simp), hax, decide_eq_false hx]
        rfl
  · have hcb : (c != 0) = true := by simpa using hc
    refine ⟨(0, c), ?_, ?_⟩
    · unfold ancestry_Depth
      rw [look_bad h1 hc]
      simp only [bS]
      rw [hcb]; rfl
    · unfold braidref10_Depth
      rw [asked_bad h2 hc]
      simp only [bS]
      rw [hcb]; rfl
end Go.Proofs.YtjnheeekdadcpaaGreatDoor
namespace Go.Proofs.YtjnheeekdadcpaaGreatDoor
open Go
set_option linter.unusedSimpArgs false
set_option linter.unusedVariables false
variable {g : api_Graph}
theorem greatOp {o : api_Op} (h : braidref06_Great o = some false) : o.Preds.length ≤ 20 ∧ o.Act.Key.length ≤ 100 ∧ o.Act.Value.Text.length ≤ 100 := by
  unfold braidref06_Great at h
  by_cases h1 : 20 < o.Preds.length
  · rw [if_pos (by simp; omega)] at h; exact absurd h (by simp)
  · rw [if_neg (by simp; omega)] at h
    by_cases h2 : 100 < o.Act.Key.length
    · rw [if_pos (by simp; omega)] at h; exact absurd h (by simp)
    · rw [if_neg (by simp; omega)] at h
      simp only [bS] at h
      have h := Option.some.inj h
      rw [decide_eq_false_iff_not] at h
      exact ⟨by omega, by omega, by omega⟩
theorem greatOp_some (o : api_Op) : ∃ b, braidref06_Great o = some b := by
  unfold braidref06_Great
  split
  · exact ⟨_, rfl⟩
  · split
    · exact ⟨_, rfl⟩
    · exact ⟨_, rfl⟩
structure Small (g : api_Graph) : Prop where
  ops : g.Ops.length ≤ 70
  ids : g.IDs.length ≤ 70
  op : ∀ i (h : i < g.Ops.length), g.Ops[i].Preds.length ≤ 20 ∧ g.Ops[i].Act.Key.length ≤ 100 ∧ g.Ops[i].Act.Value.Text.length ≤ 100
theorem great_from (g : api_Graph) : ∀ (k i : Nat), 71 - i = k → i ≤ 71 → ∃ r : Sum Bool Unit, iter (braidref09_Great_L0 g) (i : Int) = some r ∧ (r = .inl true ∨ (r = .inr () ∧ ∀ j (h : j < g.Ops.length), i ≤ j → j ≤ 70 → g.Ops[j].Preds.length ≤ 20 ∧ g.Ops[j].Act.Key.length ≤ 100 ∧ g.Ops[j].Act.Value.Text.length ≤ 100))
  | 0, i, h1, h2 => by
    refine ⟨.inr (), iter_l ?_, .inr ⟨rfl, fun j hj h3 h4 => by omega⟩⟩
    unfold braidref09_Great_L0
    split
    · rw [if_neg (by simp; omega)]
    · rfl
  | k + 1, i, h1, h2 => by
    by_cases hi : i < g.Ops.length
    · obtain ⟨b, hb⟩ := greatOp_some g.Ops[i]
      have hF : braidref09_Great_L0 g (i : Int) = if b then some (.inl (.inl true)) else some (.inr ((i + 1 : Nat) : Int)) := by
        unfold braidref09_Great_L0
        rw [if_pos (by simpa using hi), if_pos (by simp; omega), idx_nat hi]
        simp only [bS]
        rw [hb, w64_nat (by omega)]
        simp only [bS]
      cases b with
      | true => exact ⟨_, iter_l hF, .inl rfl⟩
      | false =>
        rw [if_neg (by simp)] at hF
        obtain ⟨r, e1, e2⟩ := great_from g k (i + 1) (by omega) (by omega)
        refine ⟨r, by rw [iter_r hF]; exact e1, e2.imp id fun ⟨e2, e3⟩ => ⟨e2, fun j hj h3 h4 => ?_⟩⟩
        by_cases hji : j = i
        · subst hji; exact greatOp hb
        · exact e3 j hj (by omega) h4
    · refine ⟨.inr (), iter_l ?_, .inr ⟨rfl, fun j hj h3 h4 => by omega⟩⟩
      unfold braidref09_Great_L0
      rw [if_neg (by simpa using hi)]
theorem great_eq (g : api_Graph) : ∃ b, braidref09_Great g = some b ∧ (b = false → Small g) := by
  obtain ⟨r, e1, e2⟩ := great_from g 71 0 rfl (by omega)
  unfold braidref09_Great
  rw [show (0 : Int) = ((0 : Nat) : Int) from rfl, e1]
  rcases e2 with rfl | ⟨rfl, e3⟩
  · exact ⟨true, rfl, fun h => absurd h (by simp)⟩
  · simp only [or_r, bS]
    have key : ∀ (P : Bool), (P = false → g.Ops.length ≤ 70 ∧ g.IDs.length ≤ 70) → P = false → Small g := fun P h hp => ⟨(h hp).1, (h hp).2, fun i hi => e3 i hi (Nat.zero_le _) (by have := (h hp).1; omega)⟩
    by_cases hA : 70 < g.Ops.length
    · have a1 : decide (70 < (g.Ops.length : Int)) = true := by simp; omega
      have a2 : decide ((g.Ops.length : Int) ≤ 60) = false := by simp; omega
      rw [a1, a2]
      simp only [if_true, Bool.false_eq_true, if_false]
      exact ⟨true, by split <;> rfl, fun h => absurd h (by simp)⟩
    · have a1 : decide (70 < (g.Ops.length : Int)) = false := by simp; omega
      rw [a1]
      simp only [Bool.false_eq_true, if_false]
      have k2 := key (decide (70 < (g.IDs.length : Int))) fun h => by simp at h; omega
      split
      · split
        · exact ⟨true, rfl, fun h => absurd h (by simp)⟩
        · exact ⟨_, rfl, k2⟩
      · exact ⟨_, rfl, k2⟩
theorem twin_eq (S : Small g) : braidref09_Twin g = some g := by
  have h1 := S.ops
  have h2 := S.ids
  have main := iter_run (F := braidref09_Twin_L0 g) (b := g.Ops) g.Ops.length (fun i => (g.Ops.take i, (i : Int))) (fun i hi => ?_) ?_
  · unfold braidref09_Twin
    rw [app_eq (by simp; omega)]
    simp only [bS, List.nil_append]
    rw [List.take_zero] at main
    rw [show (0 : Int) = ((0 : Nat) : Int) from rfl, main]
    simp only [bS]
  · have h4 := (S.op i hi).1
    unfold braidref09_Twin_L0 braidref06_Twin
    rw [if_pos (by simpa using hi)]
    simp only []
    rw [idx_nat hi]
    simp only [bS]
    rw [app_eq (by simp; omega)]
    simp only [bS, List.nil_append]
    rw [app_eq (by simp; omega), w64_nat (by omega)]
    simp only [bS]
    rw [List.take_add_one, List.getElem?_eq_getElem hi]; rfl
  · unfold braidref09_Twin_L0
    rw [if_neg (by simp), List.take_length]
theorem sameIDs_self (l : List ID) (hl : l.length ≤ 1000) : braidref04_SameIDs l l = some true := by
  have := iter_run (F := braidref04_SameIDs_L0 l l) (b := .inr ()) l.length (fun i => (i : Int)) (fun i hi => ?_) ?_
  · unfold braidref04_SameIDs
    rw [if_neg (by simp), show (0 : Int) = ((0 : Nat) : Int) from rfl, this]; rfl
  · unfold braidref04_SameIDs_L0
    rw [if_pos (by simpa using hi), idx_nat hi, w64_nat (by omega)]
    simp only [bS]
    rw [if_neg (by simp)]
  · unfold braidref04_SameIDs_L0
    rw [if_neg (by simp)]
theorem same_self (S : Small g) : braidref09_Same g g = some true := by
  have h1 := S.ops
  have h2 := S.ids
  have := iter_run (F := braidref09_Same_L0 g g) (b := .inr ()) g.Ops.length (fun i => (i : Int)) (fun i hi => ?_) ?_
  · unfold braidref09_Same
    rw [sameIDs_self _ (by omega)]
    simp only [bS]
    rw [if_neg (by simp), if_neg (by simp), show (0 : Int) = ((0 : Nat) : Int) from rfl, this]; rfl
  · have h4 := (S.op i hi).1
    have hs : braidref06_Same g.Ops[i] g.Ops[i] = some true := by
      unfold braidref06_Same
      rw [if_pos (by simp), sameIDs_self _ (by omega)]
      simp only [bS]
      simp
    unfold braidref09_Same_L0
    rw [if_pos (by simpa using hi), idx_nat hi]
    simp only [bS]
    rw [hs, w64_nat (by omega)]
    simp only [bS]
    rw [if_neg (by simp)]
  · unfold braidref09_Same_L0
    rw [if_neg (by simp)]
theorem finds_true (a0 : api_Graph) (a1 a2 : ID) (w0 : wf_api_Graph a0) (_ : ∀ x ∈ a1.toList, (fun _ => True) x) (_ : ∀ x ∈ a2.toList, (fun _ => True) x) : braidlaw10_AncestryFinds a0 a1 a2 = some true := by
  obtain ⟨b, b1, b2⟩ := great_eq a0
  unfold braidlaw10_AncestryFinds
  rw [b1]
  simp only [bS]
  cases b with
  | true => rfl
  | false =>
    have S := b2 rfl
    obtain ⟨c, c1, c2, c3⟩ := check_eq w0
    obtain ⟨r1, p1, p2, p3⟩ := ancestors_eq c1 c2 c3 a2
    obtain ⟨r2, p4, p5⟩ := is10_eq c1 c2 c3 a1 a2
    obtain ⟨r3, p6, p7, p8⟩ := heads_eq c1 c2 c3
    obtain ⟨r4, p9, p10⟩ := depth_eq c1 c2 c3 a2
    rw [if_neg (by simp), twin_eq S]
    simp only [bS]
    rw [p1, p2]
    simp only [bS]
    rw [p4, p5]
    simp only [bS]
    rw [p6, p7]
    simp only [bS]
    rw [p9, p10]
    simp only [bS]
    rw [sameIDs_self _ (by omega)]
    simp only [bS]
    rw [if_pos trivial, if_pos (by simp), if_pos (by simp), if_pos (by simp), sameIDs_self _ (by omega)]
    simp only [bS]
    rw [if_pos trivial, if_pos (by simp), if_pos (by simp), if_pos (by simp), same_self S]
    simp only [bS]
end Go.Proofs.YtjnheeekdadcpaaGreatDoor
