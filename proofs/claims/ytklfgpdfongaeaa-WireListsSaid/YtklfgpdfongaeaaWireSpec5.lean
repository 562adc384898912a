/- Ids built byte by byte. No program in sight. -/
import Derived.Test.YtklfgpdfongaeaaWireSpec4
import Derived.Test.YtklfgpdfongaeaaLibK
namespace Go.Proofs.Ytklfgpdfongaeaa
open Go Go.RowKit
set_option linter.unusedSimpArgs false
set_option linter.unusedVariables false

/-- The id of which the first k bytes are filled, from place o on. -/
def idPart (s : List UInt8) (o k : Nat) : ID32 := ⟨(List.range 32).map fun j => if j < k then s.getD (o + j) 0 else 0, by simp⟩
theorem idPart_zero (s : List UInt8) (o : Nat) : idPart s o 0 = ID32.zero := by
  refine ID32.ext' ?_
  show (List.range 32).map (fun j => if j < 0 then s.getD (o + j) 0 else 0) = List.replicate 32 0
  simp only [Nat.not_lt_zero, if_false]
  rfl
theorem idPart_step (s : List UInt8) (o k : Nat) (hk : k < 32) : spl (idsE.of (idPart s o k)).toArray k (Value.int .u8 (((s.getD (o + k) 0).toNat : Nat) : Int)).cells.toList = (idsE.of (idPart s o (k + 1))).toArray := by
  have e : ∀ k, idsE.of (idPart s o k) = (List.range 32).map fun j => encB (if j < k then s.getD (o + j) 0 else 0) := by
    intro k; show ((List.range 32).map fun j => if j < k then s.getD (o + j) 0 else 0).map encB = _; rw [List.map_map]; rfl
  rw [e, e]
  unfold spl
  congr 1
  refine List.ext_getElem? fun j => ?_
  rw [show (Value.int .u8 (((s.getD (o + k) 0).toNat : Nat) : Int)).cells.toList = [encB (s.getD (o + k) 0)] from rfl]
  simp only [List.getElem?_append, List.getElem?_take, List.getElem?_drop, List.length_append, List.length_take, List.length_cons, List.length_nil, List.length_map, List.length_range, List.getElem?_map]
  rcases Nat.lt_trichotomy j k with h | h | h
  · rw [if_pos (by omega), if_pos (by omega), if_pos h]
    by_cases h32 : j < 32
    · simp [List.getElem?_range h32, h, show j < k + 1 by omega]
    · omega
  · subst h
    rw [if_pos (by omega), if_neg (by omega)]
    simp [List.getElem?_range hk, show j - min j 32 = 0 by omega]
  · rw [if_neg (by omega)]
    rw [show k + (0 + 1) + (j - (min k 32 + (0 + 1))) = j by omega]
    by_cases h32 : j < 32
    · simp [List.getElem?_range h32, show ¬ j < k by omega, show ¬ j < k + 1 by omega]
    · simp [show 32 ≤ j by omega]
/-- n ids from place o on. -/
def rdIDs (s : List UInt8) (o n : Nat) : List ID32 := (List.range n).map fun i => idPart s (o + 32 * i) 32
theorem rdIDs_len (s : List UInt8) (o n : Nat) : (rdIDs s o n).length = n := by simp [rdIDs]
theorem rdIDs_step (s : List UInt8) (o n : Nat) : rdIDs s o n ++ [idPart s (o + 32 * n) 32] = rdIDs s o (n + 1) := by simp [rdIDs, List.range_succ]
theorem rdIDs_all {s : List UInt8} {o n : Nat} (h : o + 32 * n ≤ s.length) : rdIDs s o n = unflat ((s.drop o).take (32 * n)) := by
  unfold rdIDs unflat
  rw [List.length_take, List.length_drop, Nat.min_eq_left (by omega), Nat.mul_div_cancel_left _ (by decide)]
  refine List.map_congr_left fun i hi => ID32.ext' ?_
  have hi := List.mem_range.1 hi
  simp only [idPart, idAt]
  refine List.map_congr_left fun j hj => ?_
  have hj := List.mem_range.1 hj
  rw [if_pos hj]
  simp [List.getD, List.getElem?_take, List.getElem?_drop, show 32 * i + j < 32 * n by omega, Nat.add_assoc]
end Go.Proofs.Ytklfgpdfongaeaa
