/- GossipHears, the plain law. -/
import Derived.Test.YtklfgpdfongaeaaPure
import Derived.Test.YtklfgpdfongaeaaKW
import Derived.Test.YtklfgpdfongaeaaE2
namespace Go.Proofs.Ytklfgpdfongaeaa
open Go
set_option linter.unusedSimpArgs false
set_option linter.unusedVariables false

def goodM (n : Int) (m : api_Meet) : Bool := decide (0 ≤ m.A ∧ m.A < n ∧ 0 ≤ m.B ∧ m.B < n ∧ m.A ≠ m.B)
def stepS (f : Nat → Nat → Bool) (m : api_Meet) : Nat → Nat → Bool := fun i k => if (i : Int) = m.A ∨ (i : Int) = m.B then f m.A.toNat k || f m.B.toNat k else f i k
theorem two_eq (n : Int) (m : api_Meet) : gossip_two n m = some (goodM n m) := by
  unfold gossip_two goodM
  split
  · rename_i h
    simp only [decide_eq_true_eq] at h
    split
    · rename_i h2
      simp only [decide_eq_true_eq] at h2
      congr 1
      rw [Bool.eq_iff_iff]; simp; omega
    · rename_i h2
      simp only [decide_eq_true_eq] at h2
      congr 1
      rw [Bool.eq_iff_iff]; simp; omega
  · rename_i h
    simp only [decide_eq_true_eq] at h
    congr 1
    rw [Bool.eq_iff_iff]; simp; omega
theorem Two_eq (n : Int) (m : api_Meet) : braidref38_Two n m = some (goodM n m) := by
  unfold braidref38_Two goodM
  repeat' split
  all_goals (simp only [decide_eq_true_eq] at *; congr 1; rw [Bool.eq_iff_iff]; simp; omega)

/-! ### the program -/
def hb (h : Vector UInt64 5) (i k : Nat) : Bool := (h[i]?.getD 0).toNat.testBit k
theorem hb_lt {h : Vector UInt64 5} {i k : Nat} (hi : i < 5) : hb h i k = (h[i]).toNat.testBit k := by simp [hb, hi]
theorem prog_step (h : Vector UInt64 5) (m : api_Meet) (n : Int) (hn : n ≤ 5) (hg : goodM n m = true) (i k : Nat) (hi : i < 5) :
    hb (vset (vset h m.A (h[m.A.toNat]'(by simp [goodM] at hg; omega) ||| h[m.B.toNat]'(by simp [goodM] at hg; omega))) m.B (h[m.A.toNat]'(by simp [goodM] at hg; omega) ||| h[m.B.toNat]'(by simp [goodM] at hg; omega))) i k = stepS (hb h) m i k := by
  simp [goodM] at hg
  rw [hb_lt hi, vset_get hi, vset_get hi]
  unfold stepS
  rw [hb_lt (show m.A.toNat < 5 by omega), hb_lt (show m.B.toNat < 5 by omega), hb_lt hi]
  by_cases h1 : m.B.toNat = i
  · rw [if_pos h1, if_pos (by omega), UInt64.toNat_or, Nat.testBit_or]
  · rw [if_neg h1]
    by_cases h2 : m.A.toNat = i
    · rw [if_pos h2, if_pos (by omega), UInt64.toNat_or, Nat.testBit_or]
    · rw [if_neg h2, if_neg (by omega)]
theorem fold_congr (n : Int) (hn : n ≤ 5) (K : Nat → Prop) : ∀ (l : List api_Meet) (f g : Nat → Nat → Bool), (∀ m ∈ l, goodM n m = true) → (∀ i k, i < 5 → K k → f i k = g i k) → ∀ i k, i < 5 → K k → l.foldl stepS f i k = l.foldl stepS g i k := by
  intro l
  induction l with
  | nil => intro f g _ hfg i k hi hk; exact hfg i k hi hk
  | cons m l ih2 =>
    intro f g hgo hfg i k hi hk
    simp only [List.foldl_cons]
    refine ih2 _ _ (fun m hm => hgo m (by simp [hm])) (fun i k hi hk => ?_) i k hi hk
    have := hgo m (by simp)
    simp [goodM] at this
    unfold stepS
    rw [hfg m.A.toNat k (by omega) hk, hfg m.B.toNat k (by omega) hk, hfg i k hi hk]
theorem prog_meets (n : Int) (hn : n ≤ 5) (ms : List api_Meet) (hl : ms.length ≤ 1000) : ∀ (rest pre : List api_Meet) (h : Vector UInt64 5), ms = pre ++ rest →
    (rest.all (goodM n) = true → ∃ h', iter (gossip_Heard_L2 n ms) (h, (pre.length : Int)) = some (.inr h') ∧ ∀ i k, i < 5 → hb h' i k = rest.foldl stepS (hb h) i k) ∧
    (rest.all (goodM n) = false → iter (gossip_Heard_L2 n ms) (h, (pre.length : Int)) = some (.inl ([], 2)))
  | [], pre, h, e => by
    refine ⟨fun _ => ⟨h, iter_l ?_, fun _ _ _ => rfl⟩, fun hh => by simp at hh⟩
    subst e
    unfold gossip_Heard_L2
    simp
  | m :: rest, pre, h, e => by
    have hlen : pre.length < ms.length := by rw [e]; simp
    have hget : ms[pre.length]'hlen = m := by subst e; simp
    have hF : gossip_Heard_L2 n ms (h, (pre.length : Int)) = if !goodM n m then some (.inl (.inl ([], 2))) else
        vidx h m.A >>= fun x21 => vidx h m.B >>= fun x23 => vidx h m.A >>= fun x25 => vidx (vset h m.A (x21 ||| x23)) m.B >>= fun x27 => some (.inr (vset (vset h m.A (x21 ||| x23)) m.B (x21 ||| x23), w64 ((pre.length : Int) + 1))) := by
      unfold gossip_Heard_L2
      rw [if_pos (by simp <;> omega)]
      simp only [idx_nat hlen, hget, bs, two_eq]
    cases hg : goodM n m with
    | false =>
      refine ⟨fun hh => by simp [hg] at hh, fun _ => iter_l ?_⟩
      rw [hF, hg]; rfl
    | true =>
      have hg' := hg
      simp [goodM] at hg'
      have hA : m.A.toNat < 5 := by omega
      have hB : m.B.toNat < 5 := by omega
      rw [hg] at hF
      simp only [Bool.not_true, Bool.false_eq_true, if_false, vidx_int (show 0 ≤ m.A by omega) hA, vidx_int (show 0 ≤ m.B by omega) hB, bs, w64_nat (show pre.length < 9223372036854775807 by omega)] at hF
      rw [iter_r hF]
      have ih := prog_meets n hn ms hl rest (pre ++ [m]) (vset (vset h m.A (h[m.A.toNat] ||| h[m.B.toNat])) m.B (h[m.A.toNat] ||| h[m.B.toNat])) (by simp [e])
      simp only [List.length_append, List.length_cons, List.length_nil, Nat.zero_add] at ih
      refine ⟨fun hh => ?_, fun hh => ih.2 (by simpa [hg] using hh)⟩
      obtain ⟨h', k1, k2⟩ := ih.1 (by simpa [hg] using hh)
      refine ⟨h', k1, fun i k hi => ?_⟩
      rw [k2 i k hi, List.foldl_cons]
      exact fold_congr n hn (fun _ => True) rest _ _ (fun m hm => by simp [hg] at hh; exact hh m hm) (fun i k hi _ => prog_step h m n hn hg i k hi) i k hi trivial
theorem prog_init : ∃ h, iter gossip_Heard_L0 (Vector.replicate 5 0, 0) = some h ∧ ∀ i k, i < 5 → k < 5 → hb h i k = decide (i = k) := by
  refine iter_up 5 (fun i s => s.2 = (i : Int) ∧ ∀ j k, j < i → k < 5 → hb s.1 j k = decide (j = k)) (fun h => ∀ i k, i < 5 → k < 5 → hb h i k = decide (i = k)) (fun i s hi hs => ?_) (fun s hs => ?_) _ 0 (by omega) ⟨rfl, fun j k hj => by omega⟩
  · obtain ⟨h, x⟩ := s
    obtain ⟨rfl, h2⟩ := hs
    simp only at h2
    refine ⟨(vset h (i : Int) (shl64 1 i), ((i + 1 : Nat) : Int)), ?_, rfl, fun j k hj hk => ?_⟩
    · unfold gossip_Heard_L0
      rw [if_pos (by simp <;> omega)]
      simp only [chk_true (show (0 : Int) ≤ (i : Int) by omega), bs, vidx_nat hi, Int.toNat_natCast, w64_nat (show i < 9223372036854775807 by omega)]
    · simp only
      rw [hb_lt (by omega), vset_get (by omega)]
      simp only [Int.toNat_natCast]
      by_cases hij : i = j
      · subst hij
        rw [if_pos rfl, shl64_toNat]
        have : ∀ i k : Fin 5, ((1 : UInt64).toNat * 2 ^ min i.val 64 % 18446744073709551616).testBit k.val = decide (i.val = k.val) := by decide
        exact this ⟨i, hi⟩ ⟨k, hk⟩
      · rw [if_neg hij, ← hb_lt (show j < 5 by omega)]; exact h2 j k (by omega) hk
  · obtain ⟨h, x⟩ := s
    obtain ⟨rfl, h2⟩ := hs
    exact ⟨h, by unfold gossip_Heard_L0; rw [if_neg (by simp)], fun i k hi hk => h2 i k hi hk⟩
/-- whom a replica has heard -/
def heardL (f : Nat → Bool) (n : Nat) : List Int := ((List.range n).filter f).map fun k : Nat => (k : Int)
theorem heardL_succ (f : Nat → Bool) (n : Nat) : heardL f (n + 1) = if f n then heardL f n ++ [(n : Int)] else heardL f n := by
  unfold heardL
  rw [List.range_succ, List.filter_append, List.map_append]
  cases h : f n <;> simp [h]
theorem heardL_len (f : Nat → Bool) (n : Nat) : (heardL f n).length ≤ n := by
  unfold heardL
  rw [List.length_map]
  exact Nat.le_trans (List.length_filter_le _ _) (by simp)
theorem heardL_congr {f g : Nat → Bool} {n : Nat} (h : ∀ k, k < n → f k = g k) : heardL f n = heardL g n := by
  unfold heardL
  congr 1
  exact List.filter_congr (fun k hk => h k (by simpa using hk))
theorem prog_row (n : Nat) (hn : n ≤ 5) (h : Vector UInt64 5) (s : List (List Int)) (i : Nat) (hi : i < n) : iter (gossip_Heard_L6 (n : Int) h (s, (i : Int))) ([], 0) = some (heardL (hb h i) n) := by
  refine iter_run n (fun k => (heardL (hb h i) k, (k : Int))) (fun k hk => ?_) ?_
  · unfold gossip_Heard_L6
    rw [if_pos (by simp <;> omega)]
    simp only [vidx_nat (show i < 5 by omega), bs, chk_true (show (0 : Int) ≤ (k : Int) by omega), Int.toNat_natCast, bit64 _ k (by omega), ← hb_lt (show i < 5 by omega)]
    rw [heardL_succ]
    have hl := heardL_len (hb h i) k
    cases hb h i k with
    | true => simp only [if_true, app_eq (show ((heardL (hb h i) k).length + [(k : Int)].length) * 8 ≤ 140737488355328 by simp; omega), bs, w64_nat (show k < 9223372036854775807 by omega)]
    | false => simp only [Bool.false_eq_true, if_false, w64_nat (show k < 9223372036854775807 by omega)]
  · unfold gossip_Heard_L6
    rw [if_neg (by simp)]
theorem prog_rows (n : Nat) (hn : n ≤ 5) (h : Vector UInt64 5) : iter (gossip_Heard_L4 (n : Int) h) ([], 0) = some ((List.range n).map fun i => heardL (hb h i) n) := by
  refine iter_run n (fun k => ((List.range k).map fun i => heardL (hb h i) n, (k : Int))) (fun k hk => ?_) ?_
  · unfold gossip_Heard_L4
    rw [if_pos (by simp <;> omega)]
    rw [prog_row n hn h _ k hk]
    simp only [bs]
    rw [app_eq (by simp <;> omega)]
    simp only [bs, w64_nat (show k < 9223372036854775807 by omega), List.range_succ, List.map_append, List.map_cons, List.map_nil]
  · unfold gossip_Heard_L4
    rw [if_neg (by simp)]

/-! ### the reference -/
def mb (M : Vector (Vector Bool 5) 5) (i k : Nat) : Bool := ((M[i]?.getD default)[k]?).getD false
theorem mb_lt {M : Vector (Vector Bool 5) 5} {i k : Nat} (hi : i < 5) (hk : k < 5) : mb M i k = M[i][k] := by simp [mb, hi, hk]
theorem mb_set {M : Vector (Vector Bool 5) 5} {i : Int} {row : Vector Bool 5} {j k : Nat} (hj : j < 5) (hk : k < 5) : mb (vset M i row) j k = if i.toNat = j then row[k] else mb M j k := by
  rw [mb_lt hj hk]
  simp only [vset_get hj]
  split
  · rfl
  · rw [mb_lt hj hk]
theorem ref_check (n : Int) (ms : List api_Meet) (hl : ms.length ≤ 1000) : ∀ (rest pre : List api_Meet), ms = pre ++ rest →
    iter (braidref38_Heard_L0 n ms) (pre.length : Int) = some (if rest.all (goodM n) then .inr () else .inl ([], 2))
  | [], pre, e => by
    refine iter_l ?_
    subst e
    unfold braidref38_Heard_L0
    simp
  | m :: rest, pre, e => by
    have hlen : pre.length < ms.length := by rw [e]; simp
    have hget : ms[pre.length]'hlen = m := by subst e; simp
    have hF : braidref38_Heard_L0 n ms (pre.length : Int) = if !goodM n m then some (.inl (.inl ([], 2))) else some (.inr (((pre.length + 1 : Nat) : Int))) := by
      unfold braidref38_Heard_L0
      rw [if_pos (by simp <;> omega)]
      simp only [idx_nat hlen, hget, bs, Two_eq, w64_nat (show pre.length < 9223372036854775807 by omega)]
    cases hg : goodM n m with
    | false =>
      rw [hg] at hF
      rw [iter_l hF]; simp [hg]
    | true =>
      rw [hg] at hF
      rw [iter_r hF]
      have ih := ref_check n ms hl rest (pre ++ [m]) (by simp [e])
      simp only [List.length_append, List.length_cons, List.length_nil, Nat.zero_add] at ih
      rw [ih]; simp [hg]
theorem ref_init (n : Nat) (hn : n ≤ 5) : ∃ M, iter (braidref38_Heard_L2 (n : Int)) (Vector.replicate 5 (Vector.replicate 5 false), 0) = some M ∧ ∀ i k, i < 5 → k < 5 → mb M i k = decide (i = k ∧ i < n) := by
  refine iter_up n (fun i s => s.2 = (i : Int) ∧ ∀ j k, j < 5 → k < 5 → mb s.1 j k = decide (j = k ∧ j < i)) (fun M => ∀ i k, i < 5 → k < 5 → mb M i k = decide (i = k ∧ i < n)) (fun i s hi hs => ?_) (fun s hs => ?_) _ 0 (by omega) ⟨rfl, fun j k hj hk => by rw [mb_lt hj hk]; simp⟩
  · obtain ⟨M, x⟩ := s
    obtain ⟨rfl, h2⟩ := hs
    simp only at h2
    refine ⟨(vset M (i : Int) (vset (M[i]'(by omega)) (i : Int) true), ((i + 1 : Nat) : Int)), ?_, rfl, fun j k hj hk => ?_⟩
    · unfold braidref38_Heard_L2
      rw [if_pos (by simp <;> omega)]
      simp only [vidx_nat (show i < 5 by omega), bs, w64_nat (show i < 9223372036854775807 by omega)]
    · simp only
      rw [mb_set hj hk, vset_get hk, h2 j k hj hk, ← mb_lt (show i < 5 by omega) hk, h2 i k (by omega) hk]
      simp only [Int.toNat_natCast]
      by_cases hij : i = j
      · subst hij
        by_cases hik : i = k
        · simp [hik]
        · simp [hik]
      · simp only [if_neg hij]
        rw [Bool.eq_iff_iff]; simp; omega
  · obtain ⟨M, x⟩ := s
    obtain ⟨rfl, h2⟩ := hs
    exact ⟨M, by unfold braidref38_Heard_L2; rw [if_neg (by simp)], fun i k hi hk => h2 i k hi hk⟩
theorem ref_cols (n : Nat) (hn : n ≤ 5) (ms : List api_Meet) (j : Nat) (hj : j < ms.length) (hg : goodM (n : Int) ms[j] = true) (M0 sM : Vector (Vector Bool 5) 5) :
    ∃ M, iter (braidref38_Heard_L6 (n : Int) ms (sM, (j : Int))) (M0, 0) = some M ∧ ∀ i k, i < 5 → k < n → mb M i k = stepS (mb M0) ms[j] i k := by
  generalize hm : ms[j] = m at hg
  have hg' := hg
  simp [goodM] at hg'
  have hA : m.A.toNat < 5 := by omega
  have hB : m.B.toNat < 5 := by omega
  refine iter_up n (fun k s => s.2 = (k : Int) ∧ ∀ i c, i < 5 → c < 5 → mb s.1 i c = if c < k then stepS (mb M0) m i c else mb M0 i c) (fun M => ∀ i k, i < 5 → k < n → mb M i k = stepS (mb M0) m i k) (fun k s hk hs => ?_) (fun s hs => ?_) _ 0 (by omega) ⟨rfl, fun i c _ _ => by simp⟩
  · obtain ⟨M, x⟩ := s
    obtain ⟨rfl, h2⟩ := hs
    simp only at h2
    have hk5 : k < 5 := by omega
    have e1 : M[m.A.toNat][k] = mb M0 m.A.toNat k := by rw [← mb_lt hA hk5, h2 _ _ hA hk5]; simp
    have e2 : M[m.B.toNat][k] = mb M0 m.B.toNat k := by rw [← mb_lt hB hk5, h2 _ _ hB hk5]; simp
    have hb : ((if M[m.A.toNat][k] = true then some true else some (M[m.B.toNat][k])) : Option Bool) = some (mb M0 m.A.toNat k || mb M0 m.B.toNat k) := by
      rw [e1, e2]; cases mb M0 m.A.toNat k <;> simp
    generalize hbb : (mb M0 m.A.toNat k || mb M0 m.B.toNat k) = b at hb
    refine ⟨(vset (vset M m.A (vset M[m.A.toNat] (k : Int) b)) m.B (vset ((vset M m.A (vset M[m.A.toNat] (k : Int) b))[m.B.toNat]) (k : Int) b), ((k + 1 : Nat) : Int)), ?_, rfl, fun i c hi hc => ?_⟩
    · unfold braidref38_Heard_L6
      rw [if_pos (by simp <;> omega)]
      simp only [idx_nat hj, hm, bs, vidx_int (show 0 ≤ m.A by omega) hA, vidx_int (show 0 ≤ m.B by omega) hB, vidx_nat hk5, hb, w64_nat (show k < 9223372036854775807 by omega)]
    · simp only
      rw [mb_set hi hc, vset_get hc, ← mb_lt hB hc, mb_set hB hc, mb_set hi hc, vset_get hc, ← mb_lt hA hc, h2 _ _ hA hc, h2 _ _ hB hc, h2 _ _ hi hc]
      unfold stepS
      obtain ⟨A, hA'⟩ : ∃ A : Nat, m.A = (A : Int) := ⟨m.A.toNat, by omega⟩
      obtain ⟨B, hB'⟩ : ∃ B : Nat, m.B = (B : Int) := ⟨m.B.toNat, by omega⟩
      simp only [hA', hB', Int.toNat_natCast, Int.natCast_inj] at hbb hg' ⊢
      have hAB : A ≠ B := fun e => hg'.2.2.2.2 (by rw [e])
      rcases Nat.lt_trichotomy c k with h4 | h4 | h4
      · have h5 : ¬ k = c := by omega
        have h6 : c < k + 1 := by omega
        by_cases h1 : B = i
        · subst h1; simp [h4, h5, h6, hAB]
        · by_cases h2 : A = i
          · subst h2; simp [h4, h5, h6, h1]
          · have h7 : ¬ i = A := fun e => h2 e.symm
            have h8 : ¬ i = B := fun e => h1 e.symm
            simp [h4, h5, h6, h1, h2, h7, h8]
      · subst h4
        have h6 : c < c + 1 := by omega
        by_cases h1 : B = i
        · subst h1; simp [h6, hbb]
        · by_cases h2 : A = i
          · subst h2; simp [h6, h1, hbb]
          · have h7 : ¬ i = A := fun e => h2 e.symm
            have h8 : ¬ i = B := fun e => h1 e.symm
            simp [h6, h1, h2, h7, h8]
      · have h5 : ¬ k = c := by omega
        have h6 : ¬ c < k + 1 := by omega
        have h7 : ¬ c < k := by omega
        by_cases h1 : B = i
        · subst h1; simp [h5, h6, h7, hAB]
        · by_cases h2 : A = i
          · subst h2; simp [h5, h6, h7, h1]
          · simp [h5, h6, h7, h1, h2]
  · obtain ⟨M, x⟩ := s
    obtain ⟨rfl, h2⟩ := hs
    exact ⟨M, by unfold braidref38_Heard_L6; rw [if_neg (by simp)], fun i k hi hk => by rw [h2 i k hi (by omega), if_pos hk]⟩
theorem ref_meets (n : Nat) (hn : n ≤ 5) (ms : List api_Meet) (hl : ms.length ≤ 1000) : ∀ (rest pre : List api_Meet) (M : Vector (Vector Bool 5) 5), ms = pre ++ rest → rest.all (goodM (n : Int)) = true →
    ∃ M', iter (braidref38_Heard_L4 (n : Int) ms) (M, (pre.length : Int)) = some M' ∧ ∀ i k, i < 5 → k < n → mb M' i k = rest.foldl stepS (mb M) i k
  | [], pre, M, e, _ => by
    refine ⟨M, iter_l ?_, fun _ _ _ _ => rfl⟩
    subst e
    unfold braidref38_Heard_L4
    simp
  | m :: rest, pre, M, e, hg => by
    have hlen : pre.length < ms.length := by rw [e]; simp
    have hget : ms[pre.length]'hlen = m := by subst e; simp
    simp only [List.all_cons, Bool.and_eq_true] at hg
    obtain ⟨M1, h1, h2⟩ := ref_cols n hn ms pre.length hlen (by rw [hget]; exact hg.1) M M
    rw [hget] at h2
    have hF : braidref38_Heard_L4 (n : Int) ms (M, (pre.length : Int)) = some (.inr (M1, ((pre.length + 1 : Nat) : Int))) := by
      unfold braidref38_Heard_L4
      rw [if_pos (by simp <;> omega), h1]
      simp only [bs, w64_nat (show pre.length < 9223372036854775807 by omega)]
    rw [iter_r hF]
    obtain ⟨M', k1, k2⟩ := ref_meets n hn ms hl rest (pre ++ [m]) M1 (by simp [e]) hg.2
    simp only [List.length_append, List.length_cons, List.length_nil, Nat.zero_add] at k1
    refine ⟨M', k1, fun i k hi hk => ?_⟩
    rw [k2 i k hi hk, List.foldl_cons]
    exact fold_congr (n : Int) (by omega) (fun k => k < n) rest _ _ (fun m hm => by simpa using List.all_eq_true.1 hg.2 m hm) h2 i k hi hk
theorem ref_row (n : Nat) (hn : n ≤ 5) (M : Vector (Vector Bool 5) 5) (s : List (List Int)) (i : Nat) (hi : i < n) : iter (braidref38_Heard_L10 (n : Int) M (s, (i : Int))) ([], 0) = some (heardL (mb M i) n) := by
  refine iter_run n (fun k => (heardL (mb M i) k, (k : Int))) (fun k hk => ?_) ?_
  · unfold braidref38_Heard_L10
    rw [if_pos (by simp <;> omega)]
    simp only [vidx_nat (show i < 5 by omega), vidx_nat (show k < 5 by omega), bs, ← mb_lt (show i < 5 by omega) (show k < 5 by omega)]
    rw [heardL_succ]
    have hl := heardL_len (mb M i) k
    cases mb M i k with
    | true => simp only [if_true, app_eq (show ((heardL (mb M i) k).length + [(k : Int)].length) * 8 ≤ 140737488355328 by simp; omega), bs, w64_nat (show k < 9223372036854775807 by omega)]
    | false => simp only [Bool.false_eq_true, if_false, bs, w64_nat (show k < 9223372036854775807 by omega)]
  · unfold braidref38_Heard_L10
    rw [if_neg (by simp)]
theorem ref_rows (n : Nat) (hn : n ≤ 5) (M : Vector (Vector Bool 5) 5) : iter (braidref38_Heard_L8 (n : Int) M) ([], 0) = some ((List.range n).map fun i => heardL (mb M i) n) := by
  refine iter_run n (fun k => ((List.range k).map fun i => heardL (mb M i) n, (k : Int))) (fun k hk => ?_) ?_
  · unfold braidref38_Heard_L8
    rw [if_pos (by simp <;> omega)]
    rw [ref_row n hn M _ k hk]
    simp only [bs]
    rw [app_eq (by simp <;> omega)]
    simp only [bs, w64_nat (show k < 9223372036854775807 by omega), List.range_succ, List.map_append, List.map_cons, List.map_nil]
  · unfold braidref38_Heard_L8
    rw [if_neg (by simp)]

/-! ### the law -/
theorem same_inner (a : List (List Int)) (i : Nat) (hi : i < a.length) (h : (a[i]).length ≤ 1000) : iter (braidref38_SameInts_L2 a a (i : Int)) 0 = some (.inr ()) := by
  refine iter_run (a[i]).length (fun k => (k : Int)) (fun k hk => ?_) ?_
  · unfold braidref38_SameInts_L2
    simp only [idx_nat hi, bs]
    rw [if_pos (by simp <;> omega)]
    simp only [idx_nat hk, bs, bne_self_eq_false, Bool.false_eq_true, if_false, w64_nat (show k < 9223372036854775807 by omega)]
  · unfold braidref38_SameInts_L2
    simp only [idx_nat hi, bs]
    rw [if_neg (by simp)]
theorem same_refl (a : List (List Int)) (h0 : a.length ≤ 1000) (h : ∀ x ∈ a, x.length ≤ 1000) : braidref38_SameInts a a = some true := by
  unfold braidref38_SameInts
  rw [if_neg (by simp)]
  have : iter (braidref38_SameInts_L0 a a) 0 = some (.inr ()) := by
    refine iter_run a.length (fun k => (k : Int)) (fun k hk => ?_) ?_
    · unfold braidref38_SameInts_L0
      rw [if_pos (by simp <;> omega)]
      simp only [idx_nat hk, bs, bne_self_eq_false, Bool.false_eq_true, if_false, same_inner a k hk (h _ (by simp)), or_r, w64_nat (show k < 9223372036854775807 by omega)]
    · unfold braidref38_SameInts_L0
      rw [if_neg (by simp)]
  rw [this]; rfl
theorem hears (n : Int) (ms : List api_Meet) (_ : inI n) (_ : (∀ x ∈ ms, wf_api_Meet x) ∧ ms.length ≤ 9223372036854775807) : braidlaw38_GossipHears n ms = some true := by
  unfold braidlaw38_GossipHears
  by_cases hl : 150 < ms.length
  · rw [if_pos (by simp <;> omega)]
  rw [if_neg (by simp <;> omega)]
  have hl' : ms.length ≤ 1000 := by omega
  by_cases h0 : n < 0
  · have e1 : gossip_Heard n ms = some ([], 2) := by unfold gossip_Heard; rw [if_pos (by simpa using h0)]
    have e2 : braidref38_Heard n ms = some ([], 2) := by unfold braidref38_Heard; rw [if_pos (by simpa using h0)]
    rw [e1, e2]; simp only [bs, same_refl [] (by simp) (by simp)]; rfl
  by_cases h5 : 5 < n
  · have e1 : gossip_Heard n ms = some ([], 2) := by unfold gossip_Heard; rw [if_neg (by simpa using h0), if_pos (by simpa using h5)]
    have e2 : braidref38_Heard n ms = some ([], 2) := by unfold braidref38_Heard; rw [if_neg (by simpa using h0), if_pos (by simpa using h5)]
    rw [e1, e2]; simp only [bs, same_refl [] (by simp) (by simp)]; rfl
  by_cases hm : 100 < ms.length
  · have e1 : gossip_Heard n ms = some ([], 4) := by unfold gossip_Heard; rw [if_neg (by simpa using h0), if_neg (by simpa using h5), if_pos (by simp <;> omega)]
    have e2 : braidref38_Heard n ms = some ([], 4) := by unfold braidref38_Heard; rw [if_neg (by simpa using h0), if_neg (by simpa using h5), if_pos (by simp <;> omega)]
    rw [e1, e2]; simp only [bs, same_refl [] (by simp) (by simp)]; rfl
  obtain ⟨k, rfl⟩ : ∃ k : Nat, n = (k : Int) := ⟨n.toNat, by omega⟩
  have hk : k ≤ 5 := by omega
  obtain ⟨h, i1, i2⟩ := prog_init
  obtain ⟨M, j1, j2⟩ := ref_init k hk
  have p := prog_meets (k : Int) (by omega) ms hl' ms [] h rfl
  have rc := ref_check (k : Int) ms hl' ms [] rfl
  simp only [List.length_nil] at p rc
  have p' := p
  cases hg : ms.all (goodM (k : Int)) with
  | false =>
    have e1 : gossip_Heard (k : Int) ms = some ([], 2) := by
      unfold gossip_Heard
      rw [if_neg (by simp <;> omega), if_neg (by simp <;> omega), if_neg (by simp <;> omega), i1]
      simp only [bs]
      have := p.2 hg
      rw [show ((0 : Nat) : Int) = 0 from rfl] at this
      rw [this]; rfl
    have e2 : braidref38_Heard (k : Int) ms = some ([], 2) := by
      unfold braidref38_Heard
      rw [if_neg (by simp <;> omega), if_neg (by simp <;> omega), if_neg (by simp <;> omega)]
      rw [show ((0 : Nat) : Int) = 0 from rfl, hg] at rc
      rw [rc]; rfl
    rw [e1, e2]; simp only [bs, same_refl [] (by simp) (by simp)]; rfl
  | true =>
    obtain ⟨h', q1, q2⟩ := p.1 hg
    obtain ⟨M', r1, r2⟩ := ref_meets k hk ms hl' ms [] M rfl hg
    simp only [List.length_nil] at r1
    rw [show ((0 : Nat) : Int) = 0 from rfl] at q1 r1
    have e1 : gossip_Heard (k : Int) ms = some ((List.range k).map fun i => heardL (hb h' i) k, 0) := by
      unfold gossip_Heard
      rw [if_neg (by simp <;> omega), if_neg (by simp <;> omega), if_neg (by simp <;> omega), i1]
      simp only [bs]
      rw [q1]
      simp only [or_r]
      rw [prog_rows k hk h']; rfl
    have e2 : braidref38_Heard (k : Int) ms = some ((List.range k).map fun i => heardL (mb M' i) k, 0) := by
      unfold braidref38_Heard
      rw [if_neg (by simp <;> omega), if_neg (by simp <;> omega), if_neg (by simp <;> omega)]
      rw [show ((0 : Nat) : Int) = 0 from rfl, hg] at rc
      rw [rc]
      simp only [if_true, or_r]
      rw [j1]
      simp only [bs]
      rw [r1]
      simp only [bs]
      rw [ref_rows k hk M']; rfl
    have e3 : ((List.range k).map fun i => heardL (hb h' i) k) = (List.range k).map fun i => heardL (mb M' i) k := by
      refine List.map_congr_left (fun i hi => ?_)
      have hi : i < k := by simpa using hi
      refine heardL_congr (fun c hc => ?_)
      rw [q2 i c (by omega), r2 i c (by omega) hc]
      refine fold_congr (k : Int) (by omega) (fun c => c < k) ms _ _ (fun m hm => by simpa using List.all_eq_true.1 hg m hm) (fun i c hi hc => ?_) i c (by omega) hc
      rw [i2 i c hi (by omega), j2 i c hi (by omega)]
      rw [Bool.eq_iff_iff]; simp; omega
    rw [e1, e2, e3]
    simp only [bs]
    rw [same_refl _ (by simp <;> omega) (fun x hx => by
      simp only [List.mem_map] at hx
      obtain ⟨i, _, rfl⟩ := hx
      have := heardL_len (mb M' i) k; omega)]
    rfl
end Go.Proofs.Ytklfgpdfongaeaa
