/- Plain Lean on what the functions that were taken from the code are made of: loops, indexes, wraps. No program. -/
import Derived.Test.YtklfgpdfongaeaaKA
namespace Go.Proofs.Ytklfgpdfongaeaa
open Go
set_option linter.unusedSimpArgs false
set_option linter.unusedVariables false

section
variable {σ β α ρ τ : Type}
theorem bs (x : α) (f : α → Option β) : (some x >>= f) = f x := rfl
theorem bn (f : α → Option β) : ((none : Option α) >>= f) = none := rfl
theorem or_l (r : ρ) (k : τ → Option ρ) : orRet (some (.inl r)) k = some r := rfl
theorem or_r (t : τ) (k : τ → Option ρ) : orRet (some (.inr t)) k = k t := rfl
theorem iter_l {F : σ → Option (Sum β σ)} {s : σ} {b : β} (h : F s = some (.inl b)) : iter F s = some b := by rw [iter, h]; rfl
theorem iter_r {F : σ → Option (Sum β σ)} {s s' : σ} (h : F s = some (.inr s')) : iter F s = iter F s' := by rw [iter, h]; rfl
/-- a loop with an invariant -/
theorem iter_inv {F : σ → Option (Sum β σ)} (I : σ → Prop) (μ : σ → Nat) (Q : β → Prop) (h : ∀ s, I s → (∃ b, F s = some (.inl b) ∧ Q b) ∨ ∃ s', F s = some (.inr s') ∧ I s' ∧ μ s' < μ s) (s : σ) (hs : I s) : ∃ b, iter F s = some b ∧ Q b := by
  have key : ∀ n s, μ s = n → I s → ∃ b, iter F s = some b ∧ Q b := by
    intro n
    induction n using Nat.strongRecOn with
    | _ n ih =>
      intro s hn hs
      rcases h s hs with ⟨b, h1, h2⟩ | ⟨s', h1, h2, h3⟩
      · exact ⟨b, iter_l h1, h2⟩
      · rw [iter_r h1]; exact ih (μ s') (hn ▸ h3) s' rfl h2
  exact key _ s rfl hs
/-- a loop that counts up: what holds behind each round -/
theorem iter_up {F : σ → Option (Sum β σ)} (n : Nat) (I : Nat → σ → Prop) (Q : β → Prop) (h1 : ∀ i s, i < n → I i s → ∃ s', F s = some (.inr s') ∧ I (i + 1) s') (h2 : ∀ s, I n s → ∃ b, F s = some (.inl b) ∧ Q b) (s : σ) (i : Nat) (hi : i ≤ n) (hs : I i s) : ∃ b, iter F s = some b ∧ Q b := by
  have key : ∀ k i s, n - i = k → i ≤ n → I i s → ∃ b, iter F s = some b ∧ Q b := by
    intro k
    induction k with
    | zero =>
      intro i s hk hi hs
      have : i = n := by omega
      subst this
      obtain ⟨b, h3, h4⟩ := h2 s hs
      exact ⟨b, iter_l h3, h4⟩
    | succ k ih =>
      intro i s hk hi hs
      obtain ⟨s', h3, h4⟩ := h1 i s (by omega) hs
      rw [iter_r h3]; exact ih (i + 1) s' (by omega) (by omega) h4
  exact key _ i s rfl hi hs
/-- the same, where the states are known -/
theorem iter_run {F : σ → Option (Sum β σ)} (n : Nat) (g : Nat → σ) {b : β} (h1 : ∀ i, i < n → F (g i) = some (.inr (g (i + 1)))) (h2 : F (g n) = some (.inl b)) : iter F (g 0) = some b := by
  obtain ⟨b', h3, rfl⟩ := iter_up n (fun i s => s = g i) (fun x => x = b) (fun i s hi hs => ⟨_, by rw [hs]; exact h1 i hi, rfl⟩) (fun s hs => ⟨_, by rw [hs]; exact h2, rfl⟩) (g 0) 0 (Nat.zero_le _) rfl
  exact h3
theorem idx_nat {l : List α} {i : Nat} (h : i < l.length) : idx l (i : Int) = some l[i] := by simp [idx, h]
theorem idx_int {l : List α} {i : Int} (h0 : 0 ≤ i) (h : i.toNat < l.length) : idx l i = some l[i.toNat] := by simp [idx, h0, h]
theorem idx_none {l : List α} {i : Int} (h : i < 0 ∨ (l.length : Int) ≤ i) : idx l i = none := by
  unfold idx; split
  · rw [List.getElem?_eq_none (by omega)]
  · rfl
theorem vidx_nat {n : Nat} {v : Vector α n} {i : Nat} (h : i < n) : vidx v (i : Int) = some v[i] := by unfold vidx; rw [idx_nat (by simpa using h)]; simp
theorem vidx_int {n : Nat} {v : Vector α n} {i : Int} (h0 : 0 ≤ i) (h : i.toNat < n) : vidx v i = some v[i.toNat] := by
  obtain ⟨j, rfl⟩ : ∃ j : Nat, i = (j : Int) := ⟨i.toNat, by omega⟩
  exact vidx_nat (by simpa using h)
theorem vset_get {n : Nat} {v : Vector α n} {i : Int} {x : α} {j : Nat} (hj : j < n) : (vset v i x)[j] = if i.toNat = j then x else v[j] := by
  unfold vset; rw [Vector.getElem_setIfInBounds hj]
theorem chk_true {p : Prop} [Decidable p] (h : p) : chk p = some () := by simp [chk, h]
theorem app_eq {by_ : Nat} {b c : List α} (h : (b.length + c.length) * by_ ≤ 140737488355328) : app by_ b c = some (b ++ c) := by simp [app, h]
theorem mkn_eq {by_ : Nat} {x : α} {n : Nat} (h : by_ * n ≤ 281474976710656) (h2 : n ≤ 9223372036854775807) : mkn by_ x (n : Int) = some (List.replicate n x) := by
  unfold mkn; rw [if_pos ⟨by omega, by simpa using h, by omega⟩]; simp
theorem cut_eq {b : List α} {i j : Nat} (h : i ≤ j) (hj : j ≤ b.length) : cut b (i : Int) (j : Int) = some ((b.drop i).take (j - i)) := by
  unfold cut; rw [if_pos ⟨by omega, by omega, by omega⟩]; simp
end
theorem w64_eq {x : Int} (h1 : -9223372036854775808 ≤ x) (h2 : x ≤ 9223372036854775807) : w64 x = x := wrap_i64' h1 h2
theorem w64_nat {n : Nat} (h : n < 9223372036854775807) : w64 ((n : Int) + 1) = ((n + 1 : Nat) : Int) := by rw [w64_eq (by omega) (by omega)]; omega
theorem shr64_toNat (a : UInt64) (n : Nat) : (shr64 a n).toNat = a.toNat / 2 ^ (min n 64) := by
  unfold shr64
  have h1 := UInt64.toNat_lt a
  have h2 : a.toNat / 2 ^ (min n 64) ≤ a.toNat := Nat.div_le_self _ _
  simp; omega
theorem shl64_toNat (a : UInt64) (n : Nat) : (shl64 a n).toNat = a.toNat * 2 ^ (min n 64) % 18446744073709551616 := by
  unfold shl64; simp
theorem bit64 (a : UInt64) (k : Nat) (hk : k < 64) : ((shr64 a k &&& 1) == 1) = a.toNat.testBit k := by
  rw [Bool.eq_iff_iff, beq_iff_eq, ← UInt64.toNat_inj, UInt64.toNat_and, shr64_toNat, Nat.min_eq_left (by omega)]
  have : (1 : UInt64).toNat = 1 := rfl
  rw [this, Nat.and_one_is_mod, Nat.testBit_eq_decide_div_mod_eq]
  simp
end Go.Proofs.Ytklfgpdfongaeaa
