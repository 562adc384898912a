/- Frames that are the same: they are equal. Plain. -/
import Derived.Test.YtklfgpdfongaeaaPIds
namespace Go.Proofs.Ytklfgpdfongaeaa
open Go
set_option linter.unusedSimpArgs false
set_option linter.unusedVariables false
theorem sids_from (a b : List (Vector UInt8 32)) (hl : a.length = b.length) (hb : a.length ≤ 9223372036854775807) : ∀ (n i : Nat), a.length - i = n → i ≤ a.length → a.take i = b.take i →
    iter (braidref04_SameIDs_L0 a b) (i : Int) = some (if a = b then .inr () else .inl false) := by
  intro n
  induction n with
  | zero =>
    intro i hn hi he
    have : i = a.length := by omega
    subst this
    refine iter_l ?_
    unfold braidref04_SameIDs_L0
    have e : a = b := by rw [List.take_length, hl, List.take_length] at he; exact he
    rw [if_neg (by simp), if_pos e]
  | succ n ih =>
    intro i hn hi he
    have h1 : i < a.length := by omega
    have h2 : i < b.length := by omega
    have hF : braidref04_SameIDs_L0 a b (i : Int) = if a[i] = b[i] then some (.inr ((i + 1 : Nat) : Int)) else some (.inl (.inl false)) := by
      unfold braidref04_SameIDs_L0
      rw [if_pos (by simp <;> omega)]
      simp only [idx_nat h1, idx_nat h2, bs, w64_nat (show i < 9223372036854775807 by omega)]
      by_cases h : a[i] = b[i] <;> simp [h]
    by_cases h : a[i] = b[i]
    · rw [if_pos h] at hF
      rw [iter_r hF]
      exact ih (i + 1) (by omega) (by omega) (by rw [List.take_succ_eq_append_getElem h1, List.take_succ_eq_append_getElem h2, he, h])
    · rw [if_neg h] at hF
      rw [iter_l hF, if_neg (fun e => h (by subst e; rfl))]
theorem sameIDs_eq (a b : List (Vector UInt8 32)) (hb : a.length ≤ 9223372036854775807) : braidref04_SameIDs a b = some (decide (a = b)) := by
  unfold braidref04_SameIDs
  by_cases hl : a.length = b.length
  · rw [if_neg (by simp [hl])]
    have := sids_from a b hl hb _ 0 rfl (by omega) (by simp)
    rw [show (0 : Int) = ((0 : Nat) : Int) from rfl, this]
    by_cases h : a = b
    · rw [if_pos h, decide_eq_true h]; rfl
    · rw [if_neg h, decide_eq_false h]; rfl
  · rw [if_pos (by simp; omega), decide_eq_false (fun e => hl (by rw [e]))]
theorem sops_from (f g : api_Frame) (hl : f.Ops.length = g.Ops.length) (hb : f.Ops.length ≤ 9223372036854775807) (hs : ∀ x ∈ f.Ops, x.length ≤ 9223372036854775807) : ∀ (n i : Nat), f.Ops.length - i = n → i ≤ f.Ops.length → f.Ops.take i = g.Ops.take i →
    iter (braidref07_Same_L0 f g) (i : Int) = some (if f.Ops = g.Ops then .inr () else .inl false) := by
  intro n
  induction n with
  | zero =>
    intro i hn hi he
    have : i = f.Ops.length := by omega
    subst this
    refine iter_l ?_
    unfold braidref07_Same_L0
    have e : f.Ops = g.Ops := by rw [List.take_length, hl, List.take_length] at he; exact he
    rw [if_neg (by simp), if_pos e]
  | succ n ih =>
    intro i hn hi he
    have h1 : i < f.Ops.length := by omega
    have h2 : i < g.Ops.length := by omega
    have hF : braidref07_Same_L0 f g (i : Int) = if f.Ops[i] = g.Ops[i] then some (.inr ((i + 1 : Nat) : Int)) else some (.inl (.inl false)) := by
      unfold braidref07_Same_L0
      rw [if_pos (by simp <;> omega)]
      simp only [idx_nat h1, idx_nat h2, bs, w64_nat (show i < 9223372036854775807 by omega)]
      rw [sameB_eq _ _ (hs _ (List.getElem_mem h1))]
      by_cases h : f.Ops[i] = g.Ops[i] <;> simp [h, bs]
    by_cases h : f.Ops[i] = g.Ops[i]
    · rw [if_pos h] at hF
      rw [iter_r hF]
      exact ih (i + 1) (by omega) (by omega) (by rw [List.take_succ_eq_append_getElem h1, List.take_succ_eq_append_getElem h2, he, h])
    · rw [if_neg h] at hF
      rw [iter_l hF, if_neg (fun e => h (by simp only [e]))]
theorem frame_ext {f g : api_Frame} (h1 : f.Kind = g.Kind) (h2 : f.N = g.N) (h3 : f.IDs = g.IDs) (h4 : f.Ops = g.Ops) : f = g := by
  cases f; cases g; simp only at h1 h2 h3 h4; subst h1 h2 h3 h4; rfl
theorem same7_eq (f g : api_Frame) (h1 : f.IDs.length ≤ 9223372036854775807) (h2 : f.Ops.length ≤ 9223372036854775807) (h3 : ∀ x ∈ f.Ops, x.length ≤ 9223372036854775807) : braidref07_Same f g = some (decide (f = g)) := by
  unfold braidref07_Same
  rw [sameIDs_eq _ _ h1]
  by_cases c1 : f.Kind = g.Kind
  · by_cases c2 : f.N = g.N
    · by_cases c3 : f.IDs = g.IDs
      · rw [if_neg (by simp [c1]), if_neg (by simp [c2]), decide_eq_true c3]
        simp only [bs, Bool.not_true, Bool.false_eq_true, if_false]
        by_cases hl : f.Ops.length = g.Ops.length
        · rw [if_neg (by simp [hl])]
          have := sops_from f g hl h2 h3 _ 0 rfl (by omega) (by simp)
          rw [show (0 : Int) = ((0 : Nat) : Int) from rfl, this]
          by_cases h : f.Ops = g.Ops
          · rw [if_pos h, decide_eq_true (frame_ext c1 c2 c3 h)]; rfl
          · rw [if_neg h, decide_eq_false (fun e => h (by rw [e]))]; rfl
        · rw [if_pos (by simp; omega), decide_eq_false (fun e => hl (by rw [e]))]
      · rw [if_neg (by simp [c1]), if_neg (by simp [c2]), decide_eq_false c3, decide_eq_false (fun e => c3 (by rw [e]))]; rfl
    · rw [if_neg (by simp [c1]), if_pos (by simp [c2]), decide_eq_false (fun e => c2 (by rw [e]))]; rfl
  · rw [if_pos (by simp [c1]), decide_eq_false (fun e => c1 (by rw [e]))]; rfl
end Go.Proofs.Ytklfgpdfongaeaa
