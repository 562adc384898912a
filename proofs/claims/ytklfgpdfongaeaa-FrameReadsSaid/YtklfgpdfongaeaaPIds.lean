/- Lists of ids that are read, by the program and by the reference. Plain. -/
import Derived.Test.YtklfgpdfongaeaaPRead
namespace Go.Proofs.Ytklfgpdfongaeaa
open Go
set_option linter.unusedSimpArgs false
set_option linter.unusedVariables false
/-- the id at some place of bytes -/
def idAt (s : List UInt8) (o : Nat) : Vector UInt8 32 := Vector.ofFn fun j : Fin 32 => s.getD (o + j.val) 0
def idsOf (s : List UInt8) (n : Nat) : List (Vector UInt8 32) := (List.range n).map fun i => idAt s (32 * i)
theorem idsOf_len (s : List UInt8) (n : Nat) : (idsOf s n).length = n := by simp [idsOf]
theorem idsOf_succ (s : List UInt8) (n : Nat) : idsOf s (n + 1) = idsOf s n ++ [idAt s (32 * n)] := by simp [idsOf, List.range_succ]
theorem idAt_list (s : List UInt8) (o : Nat) (h : o + 32 ≤ s.length) : (idAt s o).toList = (s.drop o).take 32 := by
  apply List.ext_getElem
  · simp; omega
  · intro j h1 h2
    have hj : j < 32 := by simpa using h1
    simp only [idAt, Vector.getElem_toList, Vector.getElem_ofFn, List.getElem_take, List.getElem_drop]
    exact getD_get (by omega)
theorem idsL_of (s : List UInt8) : ∀ n : Nat, 32 * n ≤ s.length → idsL (idsOf s n) = s.take (32 * n)
  | 0, _ => by simp [idsOf, idsL]
  | n + 1, h => by
    rw [idsOf_succ]
    have ih := idsL_of s n (by omega)
    unfold idsL at ih ⊢
    rw [List.flatMap_append, ih, List.flatMap_cons, List.flatMap_nil, List.append_nil, idAt_list s (32 * n) (by omega), show 32 * (n + 1) = 32 * n + 32 by omega, List.take_add]
theorem vcopy_id (x : Vector UInt8 32) (s : List UInt8) (o : Nat) (h : o + 32 ≤ s.length) : vcopy x (s.drop o) = idAt s o := by
  apply Vector.toList_inj.1
  rw [vcopy_list, idAt_list s o h]
  have : (s.drop o).length = s.length - o := by simp
  rw [Nat.min_eq_right (by omega)]
  simp
/-- what is read of a list of ids -/
def rdIDs (b : List UInt8) (most : Int) : List (Vector UInt8 32) × Nat × Nat :=
  if (partL b most 32).2.2 ≠ 0 then ([], 0, (partL b most 32).2.2)
  else if incr (idsOf (partL b most 32).1 ((partL b most 32).1.length / 32)) then (idsOf (partL b most 32).1 ((partL b most 32).1.length / 32), (partL b most 32).2.1, 0) else ([], 0, 12)
theorem part_len32 {b : List UInt8} {most : Int} (h : (partL b most 32).2.2 = 0) : (partL b most 32).1.length = 32 * (readN b).1 ∧ (partL b most 32).2.1 = (readN b).2.1 + 32 * (readN b).1 ∧ (readN b).2.2 = 0 ∧ (partL b most 32).1 = (b.drop (readN b).2.1).take (32 * (readN b).1) ∧ ((readN b).1 : Int) ≤ most ∧ (readN b).2.1 + 32 * (readN b).1 ≤ b.length := by
  have hu := readN_used b
  by_cases h1 : most < 0
  · rw [partL_arg h1] at h; cases h
  by_cases h2 : (readN b).2.2 ≠ 0 ∨ most < ((readN b).1 : Int) ∨ (b.length - (readN b).2.1) / 32 < (readN b).1
  · rw [partL_bad h1 h2] at h; cases h
  · have hf := part_fits (b := b) (k := 32) (by omega)
    rw [partL_good h1 h2]
    refine ⟨?_, rfl, by omega, rfl, by omega, by omega⟩
    simp only [List.length_take, List.length_drop]; omega
theorem rdi_L0 (s : List UInt8) (n : Nat) (hs : s.length = 32 * n) (hn : n ≤ 1000) : iter (wire_ReadIDs_L0 (List.replicate n (Vector.replicate 32 0))) (s, List.replicate n (Vector.replicate 32 0), 0) = some (idsOf s n) := by
  have h := iter_run (F := wire_ReadIDs_L0 (List.replicate n (Vector.replicate 32 0))) (b := idsOf s n) n (fun i => (s.drop (32 * i), idsOf s i ++ List.replicate (n - i) (Vector.replicate 32 0), (i : Int)))
    (fun i hi => by
      unfold wire_ReadIDs_L0
      rw [if_pos (by simp; omega)]
      have hl : (idsOf s i ++ List.replicate (n - i) (Vector.replicate 32 (0 : UInt8))).length = n := by simp [idsOf_len]; omega
      have hidx : idx (idsOf s i ++ List.replicate (n - i) (Vector.replicate 32 (0 : UInt8))) (i : Int) = some (Vector.replicate 32 0) := by
        rw [idx_nat (by omega)]
        rw [List.getElem_append_right (by rw [idsOf_len]; omega)]
        simp
      have hd : (s.drop (32 * i)).length = 32 * (n - i) := by rw [List.length_drop, hs]; omega
      have hmin : min (s.drop (32 * i)).length 32 = 32 := by rw [hd]; omega
      have hcut : cut (s.drop (32 * i)) ((32 : Nat) : Int) ((s.drop (32 * i)).length : Int) = some (s.drop (32 * (i + 1))) := by
        rw [cut_eq (by omega) (Nat.le_refl _), List.drop_drop, List.take_of_length_le (by simp; omega)]
        congr 2
      simp only [hidx, bs, hmin, hcut]
      rw [vcopy_id _ s (32 * i) (by omega), w64_nat (by omega)]
      congr 3
      have e : n - i = (n - (i + 1)) + 1 := by omega
      rw [Int.toNat_natCast, List.set_append_right _ _ (by rw [idsOf_len]; exact Nat.le_refl _), idsOf_len, Nat.sub_self, e, List.replicate_succ, List.set_cons_zero, idsOf_succ, List.append_assoc]
      rfl)
    (by
      unfold wire_ReadIDs_L0
      rw [if_neg (by simp)]
      simp)
  simpa [idsOf] using h
theorem rdIDs_eq (b : List UInt8) (hb : b.length ≤ 20000) (most : Int) (hm : most ≤ 1000) : wire_ReadIDs b most = some ((rdIDs b most).1, ((rdIDs b most).2.1 : Int), ((rdIDs b most).2.2 : Int)) := by
  unfold wire_ReadIDs rdIDs
  have hp := rdPart_eq b (by omega) most (by omega) 32 (by omega) (by omega)
  rw [show ((32 : Nat) : Int) = 32 from rfl] at hp
  rw [hp]
  simp only [bs]
  by_cases h : (partL b most 32).2.2 = 0
  · obtain ⟨l1, l2, l3, l4, l5, l6⟩ := part_len32 h
    have hn : (partL b most 32).1.length / 32 = (readN b).1 := by omega
    rw [if_neg (by simp [h]), if_neg (by simp [h]), hn]
    have e : w64 (Int.tdiv ((partL b most 32).1.length : Int) 32) = ((readN b).1 : Int) := by
      rw [l1, Int.tdiv_eq_ediv_of_nonneg (by omega), w64_eq (by omega) (by omega)]; omega
    rw [e, mkn_eq (by omega) (by omega)]
    simp only [bs]
    rw [rdi_L0 _ _ l1 (by omega)]
    simp only [bs]
    rw [wrising_eq _ (by rw [idsOf_len]; omega)]
    simp only [bs]
    cases incr (idsOf (partL b most 32).1 (readN b).1) <;> rfl
  · rw [if_pos (by simp; omega), if_pos h]; rfl
/-! ### the reference -/
theorem rfi_L2 (b : List UInt8) (r2 : UInt64 × Int × Int) (s9 : List (Vector UInt8 32) × Int) (o : Nat) (ho : w64 (r2.2.1 + (w64 (32 * s9.2))) = (o : Int)) (hb : o + 32 ≤ b.length) (hb2 : b.length ≤ 20000) : iter (braidref04_ReadIDs_L2 b r2 s9) ((Vector.replicate 32 0), 0) = some (idAt b o) := by
  obtain ⟨v, h1, h2⟩ := iter_up (F := braidref04_ReadIDs_L2 b r2 s9) 32 (fun i s => s.2 = (i : Int) ∧ ∀ j (hj : j < 32), s.1[j] = if j < i then b.getD (o + j) 0 else 0) (fun v => v = idAt b o)
    (fun i s hi hs => by
      obtain ⟨v, k⟩ := s
      obtain ⟨e1, e2⟩ := hs
      simp only at e1 e2
      subst e1
      have e3 : w64 ((o : Int) + (i : Int)) = ((o + i : Nat) : Int) := by rw [w64_eq (by omega) (by omega)]; omega
      have hg : o + i < b.length := by omega
      refine ⟨(vset v (i : Int) b[o + i], ((i + 1 : Nat) : Int)), ?_, rfl, fun j hj => ?_⟩
      · unfold braidref04_ReadIDs_L2
        rw [if_pos (by simp; omega)]
        simp only
        rw [ho, e3, idx_nat hg, vidx_nat hi]
        simp only [bs]
        rw [w64_nat (by omega)]
      · show (vset v (i : Int) b[o + i])[j] = _
        rw [vset_get hj, Int.toNat_natCast]
        by_cases hij : i = j
        · subst hij
          rw [if_pos rfl, if_pos (by omega), getD_get hg]
        · rw [if_neg hij, e2 j hj]
          by_cases hlt : j < i
          · rw [if_pos hlt, if_pos (by omega)]
          · rw [if_neg hlt, if_neg (by omega)])
    (fun s hs => by
      obtain ⟨v, k⟩ := s
      obtain ⟨e1, e2⟩ := hs
      simp only at e1 e2
      subst e1
      refine ⟨v, by unfold braidref04_ReadIDs_L2; rw [if_neg (by simp)], ?_⟩
      apply Vector.ext
      intro j hj
      rw [e2 j hj, if_pos hj]; simp [idAt]) (Vector.replicate 32 0, 0) 0 (by omega) ⟨rfl, fun j hj => by simp⟩
  rw [h1, h2]
theorem idAt_cut (b : List UInt8) (u m o : Nat) (h : o + 32 ≤ m) : idAt ((b.drop u).take m) o = idAt b (u + o) := by
  apply Vector.ext
  intro j hj
  simp only [idAt, Vector.getElem_ofFn, List.getD_eq_getElem?_getD, List.getElem?_take, List.getElem?_drop]
  rw [if_pos (by omega), Nat.add_assoc]
theorem rfi_L0 (b : List UInt8) (n u : Nat) (e : Int) (hb : b.length ≤ 20000) (hu : u + 32 * n ≤ b.length) : iter (braidref04_ReadIDs_L0 b (UInt64.ofNat n, (u : Int), e)) ([], 0) = some (idsOf ((b.drop u).take (32 * n)) n) := by
  have en : (UInt64.ofNat n).toNat = n := by simp; omega
  have h := iter_run (F := braidref04_ReadIDs_L0 b (UInt64.ofNat n, (u : Int), e)) (b := idsOf ((b.drop u).take (32 * n)) n) n (fun i => (idsOf ((b.drop u).take (32 * n)) i, (i : Int)))
    (fun i hi => by
      unfold braidref04_ReadIDs_L0
      simp only [en]
      rw [w64_eq (x := (n : Int)) (by omega) (by omega), if_pos (by simp; omega)]
      have ho : w64 ((u : Int) + w64 (32 * (i : Int))) = ((u + 32 * i : Nat) : Int) := by
        rw [w64_eq (x := 32 * (i : Int)) (by omega) (by omega), w64_eq (by omega) (by omega)]; omega
      rw [rfi_L2 b _ _ (u + 32 * i) ho (by omega) hb]
      simp only [bs]
      rw [app_eq (by simp [idsOf_len]; omega)]
      simp only [bs]
      rw [w64_nat (by omega), idsOf_succ, idAt_cut b u (32 * n) (32 * i) (by omega)])
    (by
      unfold braidref04_ReadIDs_L0
      simp only [en]
      rw [w64_eq (x := (n : Int)) (by omega) (by omega), if_neg (by simp)])
  simpa [idsOf] using h
theorem refRdIDs_eq (b : List UInt8) (hb : b.length ≤ 20000) (most : Int) (hm : most ≤ 1000) : braidref04_ReadIDs b most = some ((rdIDs b most).1, ((rdIDs b most).2.1 : Int), ((rdIDs b most).2.2 : Int)) := by
  unfold braidref04_ReadIDs rdIDs
  by_cases h1 : most < 0
  · rw [decide_eq_true h1, if_pos rfl, partL_arg h1]; rfl
  rw [decide_eq_false h1, if_neg (by simp), refRdNum_eq b (by omega)]
  simp only [bs]
  have hl := readN_lt b
  have hu := readN_used b
  have en : (UInt64.ofNat (readN b).1).toNat = (readN b).1 := by simp; omega
  have e1 : decide (UInt64.ofInt most < UInt64.ofNat (readN b).1) = decide (most < ((readN b).1 : Int)) := by
    rw [decide_eq_decide, UInt64.lt_iff_toNat_lt, ofInt_toNat, en]; omega
  have e2 : w64 ((b.length : Int) - (readN b).2.1) = ((b.length - (readN b).2.1 : Nat) : Int) := by rw [w64_eq (by omega) (by omega)]; omega
  have e3 : decide (UInt64.ofInt (w64 ((b.length : Int) - (readN b).2.1)) / 32 < UInt64.ofNat (readN b).1) = decide ((b.length - (readN b).2.1) / 32 < (readN b).1) := by
    rw [decide_eq_decide, UInt64.lt_iff_toNat_lt, UInt64.toNat_div, e2, ofInt_toNat, en, show (32 : UInt64).toNat = 32 from rfl]; omega
  rw [e1, e3]
  by_cases h2 : (readN b).2.2 ≠ 0 ∨ most < ((readN b).1 : Int) ∨ (b.length - (readN b).2.1) / 32 < (readN b).1
  · rw [partL_bad h1 h2]
    have hs : (if ((((readN b).2.2 : Nat) : Int) != 0) = true then some true else if decide (most < ((readN b).1 : Int)) = true then some true else some (decide ((b.length - (readN b).2.1) / 32 < (readN b).1))) = some true := by
      by_cases c1 : (readN b).2.2 = 0
      · rw [if_neg (by simp [c1])]
        by_cases c2 : most < ((readN b).1 : Int)
        · rw [decide_eq_true c2, if_pos rfl]
        · rw [decide_eq_false c2, if_neg (by simp), decide_eq_true (by omega)]
      · rw [if_pos (by simp; omega)]
    rw [hs]; rfl
  · have hf := part_fits (b := b) (k := 32) (by omega)
    have hs : (if ((((readN b).2.2 : Nat) : Int) != 0) = true then some true else if decide (most < ((readN b).1 : Int)) = true then some true else some (decide ((b.length - (readN b).2.1) / 32 < (readN b).1))) = some false := by
      rw [if_neg (by simp; omega), decide_eq_false (by omega), if_neg (by simp), decide_eq_false (by omega)]
    rw [hs]
    simp only [bs, Bool.false_eq_true, if_false]
    rw [rfi_L0 b _ _ _ hb (by omega)]
    have hg : partL b most 32 = ((b.drop (readN b).2.1).take (32 * (readN b).1), (readN b).2.1 + 32 * (readN b).1, 0) := partL_good h1 h2
    have hlen : ((b.drop (readN b).2.1).take (32 * (readN b).1)).length / 32 = (readN b).1 := by simp only [List.length_take, List.length_drop]; omega
    rw [hg]
    simp only [bs, hlen, ne_eq, not_true, if_false]
    rw [Rising_eq _ (by rw [idsOf_len]; omega)]
    simp only [bs, en]
    have e5 : w64 (((readN b).2.1 : Int) + w64 (32 * w64 ((readN b).1 : Int))) = (((readN b).2.1 + 32 * (readN b).1 : Nat) : Int) := by
      rw [w64_eq (x := ((readN b).1 : Int)) (by omega) (by omega), w64_eq (x := 32 * ((readN b).1 : Int)) (by omega) (by omega), w64_eq (by omega) (by omega)]; omega
    rw [e5]
    cases incr (idsOf ((b.drop (readN b).2.1).take (32 * (readN b).1)) (readN b).1) <;> rfl
end Go.Proofs.Ytklfgpdfongaeaa
