/- Frames that are read, by the program and by the reference: the law FrameReads. Plain. -/
import Derived.Test.YtklfgpdfongaeaaPSm
import Derived.Test.YtklfgpdfongaeaaPTake
namespace Go.Proofs.Ytklfgpdfongaeaa
open Go
set_option linter.unusedSimpArgs false
set_option linter.unusedVariables false
def rdOps : Nat → List UInt8 → Option (List (List UInt8) × List UInt8)
  | 0, b => some ([], b)
  | n + 1, b => if (partL b 400 1).2.2 ≠ 0 then none else (rdOps n (b.drop (partL b 400 1).2.1)).map fun p => ((partL b 400 1).1 :: p.1, p.2)
theorem part_split {b : List UInt8} {most : Int} (h : (partL b most 1).2.2 = 0) : b = (numBytes (partL b most 1).1.length ++ (partL b most 1).1) ++ b.drop (partL b most 1).2.1 ∧ ((partL b most 1).1.length : Int) ≤ most ∧ (partL b most 1).2.1 ≤ b.length := by
  have hu := readN_used b
  by_cases h1 : most < 0
  · rw [partL_arg h1] at h; cases h
  by_cases h2 : (readN b).2.2 ≠ 0 ∨ most < ((readN b).1 : Int) ∨ (b.length - (readN b).2.1) / 1 < (readN b).1
  · rw [partL_bad h1 h2] at h; cases h
  · have hf := part_fits (b := b) (k := 1) (by omega)
    rw [partL_good h1 h2]
    have e0 : (readN b).2.2 = 0 := by omega
    rcases readN_cases b with ⟨h3, h4⟩ | ⟨n, u, h3, h4⟩
    · rw [h4] at e0; cases e0
    · obtain ⟨a1, a2, a3⟩ := (readNum_some_iff b n u).1 h3
      rw [h4] at hf h2 ⊢
      simp only [Nat.one_mul] at hf ⊢
      have hl : ((b.drop u).take n).length = n := by rw [List.length_take, List.length_drop]; omega
      simp only at h2
      refine ⟨?_, by rw [hl]; omega, by have := readNum_lt h3; omega⟩
      rw [hl, ← a3, ← List.take_add, List.take_append_drop]
theorem rdOps_ok : ∀ (n : Nat) (b : List UInt8) (ops : List (List UInt8)) (rest : List UInt8), rdOps n b = some (ops, rest) → ops.length = n ∧ b = opsL ops ++ rest ∧ ∀ x ∈ ops, x.length ≤ 400
  | 0, b, ops, rest, h => by
    simp only [rdOps, Option.some.injEq, Prod.mk.injEq] at h
    obtain ⟨rfl, rfl⟩ := h
    exact ⟨rfl, rfl, by simp⟩
  | n + 1, b, ops, rest, h => by
    unfold rdOps at h
    by_cases he : (partL b 400 1).2.2 ≠ 0
    · rw [if_pos he] at h; cases h
    · rw [if_neg he] at h
      cases hr : rdOps n (b.drop (partL b 400 1).2.1) with
      | none => rw [hr] at h; cases h
      | some p =>
        rw [hr] at h
        simp only [Option.map_some, Option.some.injEq, Prod.mk.injEq] at h
        obtain ⟨rfl, rfl⟩ := h
        obtain ⟨i1, i2, i3⟩ := rdOps_ok n _ p.1 p.2 hr
        obtain ⟨s1, s2, s3⟩ := part_split (b := b) (most := 400) (by omega)
        refine ⟨by simp [i1], ?_, ?_⟩
        · rw [opsL_cons, List.append_assoc, ← i2]; exact s1
        · intro x hx
          rcases List.mem_cons.1 hx with e | e
          · rw [e]; omega
          · exact i3 x e
theorem le400 (x : List UInt8) (h : x.length ≤ 400) : short x = true := by unfold short; simp; omega
/-! ### the program -/
theorem fread_L1 (k : UInt8) : ∀ (n : Nat) (b : List UInt8) (acc : List (List UInt8)) (u : UInt64), u.toNat = n → n + acc.length ≤ 100 → b.length ≤ 3000 →
    match rdOps n b with
    | some (ops, _) => iter (frame_read_L1 k) (b, acc, u) = some (.inr (0, [], acc ++ ops, 0))
    | none => ∃ f, iter (frame_read_L1 k) (b, acc, u) = some (.inl (f, 12))
  | 0, b, acc, u, hu, ha, hb => by
    simp only [rdOps]
    refine iter_l ?_
    unfold frame_read_L1
    have e : decide (0 < u) = false := by rw [decide_eq_false_iff_not, UInt64.lt_iff_toNat_lt, hu]; exact Nat.lt_irrefl _
    rw [e, if_neg (by simp)]; simp
  | n + 1, b, acc, u, hu, ha, hb => by
    have e : decide (0 < u) = true := by rw [decide_eq_true_eq, UInt64.lt_iff_toNat_lt, hu]; show 0 < n + 1; omega
    have hp := rdBytes_eq b (by omega) 400 (by decide)
    unfold rdOps
    by_cases he : (partL b 400 1).2.2 ≠ 0
    · rw [if_pos he]
      have h12 : (partL b 400 1).2.2 = 12 := by
        unfold partL at he ⊢
        split
        · rename_i h; exact absurd h (by decide)
        · split
          · rfl
          · rename_i h1 h2; rw [if_neg h1, if_neg h2] at he; exact absurd rfl he
      refine ⟨(⟨k, 0, [], acc⟩ : api_Frame), iter_l ?_⟩
      unfold frame_read_L1
      rw [e, if_pos rfl, hp]
      simp only [bs, h12]
      rfl
    · rw [if_neg he]
      obtain ⟨s1, s2, s3⟩ := part_split (b := b) (most := 400) (by omega)
      have hF : frame_read_L1 k (b, acc, u) = some (.inr (b.drop (partL b 400 1).2.1, acc ++ [(partL b 400 1).1], u - 1)) := by
        unfold frame_read_L1
        rw [e, if_pos rfl, hp]
        simp only [bs]
        rw [if_neg (by simp; omega), cut_eq s3 (Nat.le_refl _)]
        simp only [bs]
        rw [app_eq (by simp; omega)]
        simp only [bs]
        rw [List.take_of_length_le (by simp)]
      have hu2 : (u - 1).toNat = n := by rw [UInt64.toNat_sub_of_le _ _ (by rw [UInt64.le_iff_toNat_le, hu]; show 1 ≤ n + 1; omega), hu]; rfl
      have ih := fread_L1 k n (b.drop (partL b 400 1).2.1) (acc ++ [(partL b 400 1).1]) (u - 1) hu2 (by simp; omega) (by simp; omega)
      cases hr : rdOps n (b.drop (partL b 400 1).2.1) with
      | none =>
        rw [hr] at ih
        obtain ⟨f, ih⟩ := ih
        exact ⟨f, by rw [iter_r hF]; exact ih⟩
      | some p =>
        rw [hr] at ih
        simp only [Option.map_some]
        rw [iter_r hF]
        simp only at ih
        rw [ih]; simp
def rawF (k : UInt8) (r : List UInt8) : Option api_Frame :=
  if k = 2 ∨ k = 3 ∨ k = 4 then (if (rdIDs r 40).2.2 = 0 then some ⟨k, 0, (rdIDs r 40).1, []⟩ else none)
  else if k = 5 then (if (readN r).2.2 ≠ 0 ∨ 8 < (readN r).1 then none else (rdOps (readN r).1 (r.drop (readN r).2.1)).map fun p => ⟨k, 0, [], p.1⟩)
  else if (readN r).2.2 = 0 then some ⟨k, UInt64.ofNat (readN r).1, [], []⟩ else none
theorem rdIDs_small (r : List UInt8) (hr : r.length ≤ 3000) : (rdIDs r 40).1.length ≤ 40 := by
  unfold rdIDs
  by_cases h : (partL r 40 32).2.2 ≠ 0
  · rw [if_pos h]; simp
  · rw [if_neg h]
    obtain ⟨l1, l2, l3, l4, l5, l6⟩ := part_len32 (b := r) (most := 40) (by omega)
    split
    · simp only [idsOf_len]; omega
    · simp
theorem raw_ok {k : UInt8} {r : List UInt8} {f : api_Frame} (hr : r.length ≤ 3000) (h : rawF k r = some f) : okF f ∧ f.Kind = k := by
  unfold rawF at h
  by_cases k1 : k = 2 ∨ k = 3 ∨ k = 4
  · rw [if_pos k1] at h
    split at h
    · simp only [Option.some.injEq] at h; subst h
      have := rdIDs_small r hr
      exact ⟨⟨by show (rdIDs r 40).1.length ≤ 100; omega, by simp, by simp⟩, rfl⟩
    · cases h
  rw [if_neg k1] at h
  by_cases k2 : k = 5
  · rw [if_pos k2] at h
    split at h
    · cases h
    · rename_i h2
      cases hx : rdOps (readN r).1 (r.drop (readN r).2.1) with
      | none => rw [hx] at h; cases h
      | some p =>
        rw [hx] at h
        simp only [Option.map_some, Option.some.injEq] at h; subst h
        obtain ⟨i1, i2, i3⟩ := rdOps_ok _ _ p.1 p.2 hx
        exact ⟨⟨by simp, by show p.1.length ≤ 20; omega, fun x hx => by have := i3 x hx; omega⟩, rfl⟩
  · rw [if_neg k2] at h
    split at h
    · simp only [Option.some.injEq] at h; subst h
      exact ⟨⟨by simp, by simp, by simp⟩, rfl⟩
    · cases h
def parseF (b : List UInt8) : Option api_Frame :=
  match b with
  | [] => none
  | k :: r => match rawF k r with
    | none => none
    | some f => if goodF f = true ∧ encF f = k :: r then some f else none
def outF (o : Option api_Frame) : api_Frame × Int := match o with
  | some f => (f, 0)
  | none => (⟨0, 0, [], []⟩, 12)
theorem u64gt8 (n : Nat) (h : n < 18446744073709551616) : decide (8 < UInt64.ofNat n) = decide (8 < n) := by
  rw [decide_eq_decide, UInt64.lt_iff_toNat_lt]
  have : (UInt64.ofNat n).toNat = n := by simp; omega
  rw [this]; rfl
theorem read_eq (k : UInt8) (r : List UInt8) (hr : r.length ≤ 3000) : ∃ f e, frame_read k r = some (f, e) ∧ (e = 0 → rawF k r = some f) ∧ (e ≠ 0 → rawF k r = none) := by
  have hl := readN_lt r
  have hu := readN_used r
  unfold frame_read rawF
  rw [listed_eq, Listed_eq]
  simp only [bs]
  by_cases k1 : k = 2 ∨ k = 3 ∨ k = 4
  · rw [decide_eq_true k1, if_pos rfl, rdIDs_eq r (by omega) 40 (by decide)]
    simp only [bs, or_r, if_pos k1]
    refine ⟨_, _, rfl, fun h => ?_, fun h => ?_⟩
    · rw [if_pos (by omega)]
    · rw [if_neg (by omega)]
  rw [decide_eq_false k1]
  simp only [Bool.false_eq_true, if_false, if_neg k1]
  by_cases k2 : k = 5
  · rw [if_pos (by simp [k2]), rdNum_eq r (by omega), if_pos k2]
    simp only [bs]
    rw [u64gt8 _ hl.1]
    by_cases hb : (readN r).2.2 ≠ 0 ∨ 8 < (readN r).1
    · have hs : (if ((((readN r).2.2 : Nat) : Int) != 0) = true then some true else some (decide (8 < (readN r).1))) = some true := by
        by_cases c : (readN r).2.2 = 0
        · rw [if_neg (by simp [c]), decide_eq_true (by omega)]
        · rw [if_pos (by simp; omega)]
      rw [hs, if_pos hb]
      exact ⟨_, _, rfl, fun h => (by cases h), fun _ => rfl⟩
    · have hs : (if ((((readN r).2.2 : Nat) : Int) != 0) = true then some true else some (decide (8 < (readN r).1))) = some false := by
        rw [if_neg (by simp; omega), decide_eq_false (by omega)]
      rw [hs, if_neg hb]
      simp only [bs, Bool.false_eq_true, if_false]
      rw [cut_eq hu (Nat.le_refl _)]
      simp only [bs]
      rw [List.take_of_length_le (by simp)]
      have hloop := fread_L1 k (readN r).1 (r.drop (readN r).2.1) [] (UInt64.ofNat (readN r).1) (by simp; omega) (by simp; omega) (by simp; omega)
      cases hx : rdOps (readN r).1 (r.drop (readN r).2.1) with
      | none =>
        rw [hx] at hloop
        obtain ⟨f, hloop⟩ := hloop
        rw [hloop]
        exact ⟨_, _, rfl, fun h => (by cases h), fun _ => rfl⟩
      | some p =>
        rw [hx] at hloop
        simp only at hloop
        rw [hloop]
        exact ⟨_, _, rfl, fun _ => rfl, fun h => absurd rfl h⟩
  · rw [if_neg (by simpa using k2), rdNum_eq r (by omega), if_neg k2]
    simp only [bs, or_r]
    refine ⟨_, _, rfl, fun h => ?_, fun h => ?_⟩
    · rw [if_pos (by omega)]
    · rw [if_neg (by omega)]
theorem parse_eq (b : List UInt8) (hb : b.length ≤ 2600) : frame_Parse b = some (outF (parseF b)) := by
  unfold frame_Parse
  match b, hb with
  | [], _ => rfl
  | k :: r, hb =>
    simp only [List.length_cons] at hb
    have hlen : (((k :: r).length : Int) == 0) = false := by simp; omega
    rw [hlen]
    simp only [Bool.false_eq_true, if_false, bs]
    by_cases hbig : 2000 < (k :: r).length
    · rw [decide_eq_true (by omega)]
      have : parseF (k :: r) = none := by
        unfold parseF
        simp only
        cases hx : rawF k r with
        | none => rfl
        | some f =>
          simp only
          rw [if_neg]
          intro h
          have := encF_short h.1
          rw [h.2] at this; omega
      rw [this]; rfl
    · rw [decide_eq_false (by omega)]
      simp only [Bool.false_eq_true, if_false]
      have i0 : idx (k :: r) 0 = some k := idx_nat (l := k :: r) (i := 0) (by simp)
      have hc : cut (k :: r) 1 ((k :: r).length : Int) = some r := by
        have := cut_eq (b := k :: r) (i := 1) (j := (k :: r).length) (by simp) (by simp)
        rw [show ((1 : Nat) : Int) = 1 from rfl] at this
        rw [this]; simp
      rw [i0]
      simp only [bs]
      rw [hc]
      simp only [bs]
      obtain ⟨f, e, h1, h2, h3⟩ := read_eq k r (by omega)
      rw [h1]
      simp only [bs]
      unfold parseF
      dsimp only
      by_cases he : e = 0
      · rw [if_neg (by simp [he]), h2 he]
        obtain ⟨hok, hk⟩ := raw_ok (by omega) (h2 he)
        obtain ⟨o, w1, w2⟩ := fwrite f hok
        rw [w1]
        simp only [bs]
        cases hg : goodF f
        · have hn : ¬ (false = true ∧ encF f = k :: r) := by simp
          rw [if_neg hn]; rfl
        · rw [w2 hg]
          simp only [Bool.not_true, Bool.false_eq_true, if_false, bytes_Equal, bs]
          by_cases heq : encF f = k :: r
          · rw [if_pos (⟨trivial, heq⟩ : True ∧ encF f = k :: r), heq]
            simp [outF]
          · have hn : ¬ (True ∧ encF f = k :: r) := fun h => heq h.2
            rw [if_neg hn]
            have : (encF f == k :: r) = false := by simpa using heq
            rw [this]; rfl
      · rw [if_pos (by simpa using he), h3 he]; rfl
/-! ### the reference -/
theorem rstr_L0 (N : Nat) (r1 : UInt64 × Int × Int) (hN : r1.1.toNat = N) (hN2 : N ≤ 8) : ∀ (m : Nat) (i : Nat) (b : List UInt8) (acc : List (List UInt8)) (u : UInt64), N - i = m → i ≤ N → u.toNat = i → acc.length ≤ i → b.length ≤ 3000 →
    iter (braidref07_strings_L0 r1) (b, acc, u) = match rdOps m b with
    | some (ops, rest) => some (.inr (rest, acc ++ ops))
    | none => some (.inl ([], false)) := by
  intro m
  induction m with
  | zero =>
    intro i b acc u hm hi hu ha hb
    simp only [rdOps]
    refine iter_l ?_
    unfold braidref07_strings_L0
    have e : decide (u < r1.1) = false := by rw [decide_eq_false_iff_not, UInt64.lt_iff_toNat_lt, hu, hN]; omega
    simp only
    rw [e, if_neg (by simp)]; simp
  | succ m ih =>
    intro i b acc u hm hi hu ha hb
    have e : decide (u < r1.1) = true := by rw [decide_eq_true_eq, UInt64.lt_iff_toNat_lt, hu, hN]; omega
    have hp := refRdBytes_eq b (by omega) 400 (by decide)
    unfold rdOps
    by_cases he : (partL b 400 1).2.2 ≠ 0
    · rw [if_pos he]
      refine iter_l ?_
      unfold braidref07_strings_L0
      simp only
      rw [e, if_pos rfl, hp]
      simp only [bs]
      rw [if_pos (by simp; omega)]
    · rw [if_neg he]
      obtain ⟨s1, s2, s3⟩ := part_split (b := b) (most := 400) (by omega)
      have hF : braidref07_strings_L0 r1 (b, acc, u) = some (.inr (b.drop (partL b 400 1).2.1, acc ++ [(partL b 400 1).1], u + 1)) := by
        unfold braidref07_strings_L0
        simp only
        rw [e, if_pos rfl, hp]
        simp only [bs]
        rw [if_neg (by simp; omega), app_eq (by simp; omega)]
        simp only [bs]
        rw [cut_eq s3 (Nat.le_refl _)]
        simp only [bs]
        rw [List.take_of_length_le (by simp)]
      have hu2 : (u + 1).toNat = i + 1 := by rw [UInt64.toNat_add, hu]; show (i + 1) % 18446744073709551616 = _; omega
      rw [iter_r hF, ih (i + 1) _ _ (u + 1) (by omega) (by omega) hu2 (by simp; omega) (by simp; omega)]
      cases rdOps m (b.drop (partL b 400 1).2.1) with
      | none => rfl
      | some p => simp
theorem rstrings_eq (r : List UInt8) (hr : r.length ≤ 3000) : ∃ O ok, braidref07_strings r = some (O, ok) ∧ (ok = true → ∃ h : ¬ ((readN r).2.2 ≠ 0 ∨ 8 < (readN r).1), rdOps (readN r).1 (r.drop (readN r).2.1) = some (O, [])) ∧
    (ok = false → (readN r).2.2 ≠ 0 ∨ 8 < (readN r).1 ∨ rdOps (readN r).1 (r.drop (readN r).2.1) = none ∨ ∃ p, rdOps (readN r).1 (r.drop (readN r).2.1) = some p ∧ p.2 ≠ []) := by
  have hl := readN_lt r
  have hu := readN_used r
  unfold braidref07_strings
  rw [refRdNum_eq r (by omega)]
  simp only [bs]
  rw [u64gt8 _ hl.1]
  by_cases c : (readN r).2.2 = 0
  · rw [if_neg (by simp [c])]
    by_cases c8 : 8 < (readN r).1
    · rw [decide_eq_true c8]
      exact ⟨_, _, rfl, fun h => (by cases h), fun _ => .inr (.inl c8)⟩
    · rw [decide_eq_false c8]
      simp only [Bool.false_eq_true, if_false]
      rw [cut_eq hu (Nat.le_refl _)]
      simp only [bs]
      rw [List.take_of_length_le (by simp), rstr_L0 (readN r).1 _ (by simp; omega) (by omega) (readN r).1 0 _ _ 0 (by omega) (by omega) rfl (by simp) (by simp; omega)]
      cases hx : rdOps (readN r).1 (r.drop (readN r).2.1) with
      | none => exact ⟨_, _, rfl, fun h => (by cases h), fun _ => .inr (.inr (.inl rfl))⟩
      | some p =>
        simp only [or_r, bs, List.nil_append]
        refine ⟨p.1, _, rfl, fun h => ⟨by omega, ?_⟩, fun h => .inr (.inr (.inr ⟨p, rfl, ?_⟩))⟩
        · have : p.2 = [] := by simpa using h
          rw [← this]
        · intro e; rw [e] at h; simp at h
  · rw [if_pos (by simp; omega)]
    exact ⟨_, _, rfl, fun h => (by cases h), fun _ => .inl c⟩
theorem enc5 (r : List UInt8) (p : List (List UInt8) × List UInt8) (h1 : (readN r).2.2 = 0) (h2 : rdOps (readN r).1 (r.drop (readN r).2.1) = some p) : encF ⟨5, 0, [], p.1⟩ = 5 :: (r.take (r.length - p.2.length)) ∧ p.2.length ≤ r.length := by
  obtain ⟨i1, i2, i3⟩ := rdOps_ok _ _ p.1 p.2 h2
  rw [encF_5 rfl]
  rcases readN_cases r with ⟨h3, h4⟩ | ⟨n, u, h3, h4⟩
  · rw [h4] at h1; cases h1
  · obtain ⟨a1, a2, a3⟩ := (readNum_some_iff r n u).1 h3
    rw [h4] at i1 i2
    simp only at i1 i2
    have e : r = numBytes n ++ (opsL p.1 ++ p.2) := by rw [← i2, ← a3, List.take_append_drop]
    have hl : r.length = (numBytes n).length + ((opsL p.1).length + p.2.length) := by
      have := congrArg List.length e; simpa using this
    refine ⟨?_, by omega⟩
    show (5 : UInt8) :: (numBytes p.1.length ++ opsL p.1) = _
    rw [i1]
    congr 1
    rw [show r.length - p.2.length = (numBytes n ++ opsL p.1).length by rw [List.length_append]; omega, e, ← List.append_assoc, List.take_left]
theorem rparse_eq (b : List UInt8) (hb : b.length ≤ 2600) : braidref07_Parse b = some (outF (parseF b)) := by
  unfold braidref07_Parse
  match b, hb with
  | [], _ => rfl
  | k :: r, hb =>
    simp only [List.length_cons] at hb
    have hlen : (((k :: r).length : Int) == 0) = false := by simp; omega
    have hl := readN_lt r
    rw [hlen]
    simp only [Bool.false_eq_true, if_false]
    have i0 : idx (k :: r) 0 = some k := idx_nat (l := k :: r) (i := 0) (by simp)
    have hc : cut (k :: r) 1 ((k :: r).length : Int) = some r := by
      have := cut_eq (b := k :: r) (i := 1) (j := (k :: r).length) (by simp) (by simp)
      rw [show ((1 : Nat) : Int) = 1 from rfl] at this
      rw [this]; simp
    rw [i0]
    simp only [bs]
    rw [Listed_eq, hc]
    simp only [bs]
    have hs : ∃ N I O ok, (if decide (k = 2 ∨ k = 3 ∨ k = 4) = true then braidref04_ReadIDs r 40 >>= fun r12 => some ((0 : UInt64), r12.1, ([] : List (List UInt8)), r12.2.2 == 0)
        else if (k == 5) = true then braidref07_strings r >>= fun r17 => some ((0 : UInt64), ([] : List (Vector UInt8 32)), r17.1, r17.2)
        else braidref04_ReadNumber r >>= fun r21 => some (r21.1, ([] : List (Vector UInt8 32)), ([] : List (List UInt8)), r21.2.2 == 0)) = some (N, I, O, ok) ∧
        (ok = true → rawF k r = some ⟨k, N, I, O⟩) ∧ (ok = false → rawF k r = none ∨ ∃ f, rawF k r = some f ∧ encF f ≠ k :: r) := by
      unfold rawF
      by_cases k1 : k = 2 ∨ k = 3 ∨ k = 4
      · rw [decide_eq_true k1, if_pos rfl, refRdIDs_eq r (by omega) 40 (by decide)]
        simp only [bs, if_pos k1]
        refine ⟨_, _, _, _, rfl, fun h => ?_, fun h => .inl ?_⟩
        · rw [if_pos (by simpa using h)]
        · rw [if_neg (by simpa using h)]
      rw [decide_eq_false k1]
      simp only [Bool.false_eq_true, if_false, if_neg k1]
      by_cases k2 : k = 5
      · rw [if_pos (by simp [k2])]
        obtain ⟨O, ok, s1, s2, s3⟩ := rstrings_eq r (by omega)
        rw [s1]
        simp only [bs, if_pos k2]
        refine ⟨_, _, _, _, rfl, fun h => ?_, fun h => ?_⟩
        · obtain ⟨g1, g2⟩ := s2 h
          rw [if_neg g1, g2]; rfl
        · by_cases hb : (readN r).2.2 ≠ 0 ∨ 8 < (readN r).1
          · rw [if_pos hb]; exact .inl rfl
          · rw [if_neg hb]
            rcases s3 h with q | q | q | ⟨p, q1, q2⟩
            · exact absurd (.inl q) hb
            · exact absurd (.inr q) hb
            · rw [q]; exact .inl rfl
            · rw [q1]
              refine .inr ⟨_, rfl, ?_⟩
              have := enc5 r p (by omega) q1
              rw [k2]
              intro e
              rw [this.1] at e
              have h5 := congrArg List.length (List.cons.inj e).2
              rw [List.length_take] at h5
              have h6 : p.2.length ≠ 0 := fun e => q2 (List.eq_nil_of_length_eq_zero e)
              omega
      · rw [if_neg (by simpa using k2), refRdNum_eq r (by omega)]
        simp only [bs, if_neg k2]
        refine ⟨_, _, _, _, rfl, fun h => ?_, fun h => .inl ?_⟩
        · rw [if_pos (by simpa using h)]
        · rw [if_neg (by simpa using h)]
    obtain ⟨N, I, O, ok, s1, s2, s3⟩ := hs
    rw [s1]
    simp only [bs]
    unfold parseF
    dsimp only
    cases ok with
    | false =>
      simp only [Bool.not_false, if_true, bs]
      rcases s3 rfl with q | ⟨f, q1, q2⟩
      · rw [q]; rfl
      · rw [q1]
        simp only
        have hn : ¬ (goodF f = true ∧ encF f = k :: r) := fun h => q2 h.2
        rw [if_neg hn]; rfl
    | true =>
      simp only [Bool.not_true, Bool.false_eq_true, if_false]
      have hraw := s2 rfl
      obtain ⟨hok, -⟩ := raw_ok (by omega) hraw
      rw [rcheck_eq _ hok, hraw]
      simp only [bs]
      cases hg : goodF ⟨k, N, I, O⟩
      · have hn : ¬ (false = true ∧ encF ⟨k, N, I, O⟩ = k :: r) := by simp
        rw [if_neg hn]; rfl
      · simp only [if_true, bne_self_eq_false, Bool.false_eq_true, if_false]
        have hk : 1 ≤ k ∧ k ≤ 6 := by
          rcases kinds k with q | q | q | q
          · rcases q with e | e | e <;> rw [e] <;> decide
          · rw [q]; decide
          · rcases q with e | e <;> rw [e] <;> decide
          · exfalso
            unfold goodF at hg
            simp only [if_neg q.1, if_neg q.2.1, if_neg q.2.2] at hg
            cases hg
        have hsh := encF_short hg
        rw [Bytes_eq _ hok hk.1 hk.2]
        simp only [bs]
        rw [sameB_eq _ _ (by omega)]
        simp only [bs]
        by_cases heq : encF ⟨k, N, I, O⟩ = k :: r
        · rw [if_pos (⟨trivial, heq⟩ : True ∧ encF ⟨k, N, I, O⟩ = k :: r), decide_eq_true heq]
          simp [outF]
        · have hn : ¬ (True ∧ encF ⟨k, N, I, O⟩ = k :: r) := fun h => heq h.2
          rw [if_neg hn, decide_eq_false heq]; rfl
theorem parse_ok {b : List UInt8} {f : api_Frame} (hb : b.length ≤ 2600) (h : parseF b = some f) : okF f ∧ goodF f = true ∧ encF f = b := by
  match b, hb, h with
  | k :: r, hb, h =>
    simp only [List.length_cons] at hb
    unfold parseF at h
    simp only at h
    cases hx : rawF k r with
    | none => rw [hx] at h; cases h
    | some g =>
      rw [hx] at h
      simp only at h
      split at h
      · rename_i hc
        cases h
        exact ⟨(raw_ok (by omega) hx).1, hc.1, hc.2⟩
      · cases h
theorem out_small (b : List UInt8) (hb : b.length ≤ 2600) : okF (outF (parseF b)).1 := by
  cases h : parseF b with
  | none => exact ⟨by simp [outF], by simp [outF], by simp [outF]⟩
  | some f => exact (parse_ok hb h).1
theorem bump (l : List UInt8) (hl : l.length ≤ 100000) : ∃ u, iter (braidlaw07_FrameReads_L0) (l, 0) = some u := by
  obtain ⟨u, h, -⟩ := iter_up (F := braidlaw07_FrameReads_L0) l.length (fun i s => s.1.length = l.length ∧ s.2 = (i : Int)) (fun _ => True)
    (fun i s hi hs => by
      obtain ⟨s1, s2⟩ := s
      obtain ⟨e1, e2⟩ := hs
      simp only at e1 e2
      subst e2
      have h1 : i < s1.length := by omega
      refine ⟨_, by unfold braidlaw07_FrameReads_L0; rw [if_pos (by simp; omega)]; simp only [idx_nat h1, bs]; rfl, by simp [e1], ?_⟩
      exact w64_nat (by omega))
    (fun s hs => by
      obtain ⟨s1, s2⟩ := s
      obtain ⟨e1, e2⟩ := hs
      simp only at e1 e2
      subst e2
      exact ⟨_, by unfold braidlaw07_FrameReads_L0; rw [if_neg (by simp; omega)], trivial⟩) (l, 0) 0 (by omega) ⟨rfl, rfl⟩
  exact ⟨u, h⟩
theorem reads7 (b : List UInt8) (_ : (∀ x ∈ b, (fun _ => True) x) ∧ b.length ≤ 9223372036854775807) : braidlaw07_FrameReads b = some true := by
  unfold braidlaw07_FrameReads
  by_cases hb : 2500 < b.length
  · rw [if_pos (by simp; omega)]
  rw [if_neg (by simp; omega), app_eq (by simp; omega)]
  simp only [bs, List.nil_append]
  rw [parse_eq b (by omega), rparse_eq b (by omega)]
  obtain ⟨u, hu⟩ := bump b (by omega)
  obtain ⟨h1, h2, h3⟩ := out_small b (by omega)
  rw [hu]
  simp only [bs]
  rw [same7_eq _ _ (by omega) (by omega) (fun x hx => by have := h3 x hx; omega)]
  simp
end Go.Proofs.Ytklfgpdfongaeaa
