/- Lists of ids: their bytes, and the way back. No program in sight. -/
import Derived.Test.YtklfgpdfongaeaaWireSpec2
import Derived.Test.YtklfgpdfongaeaaW5
namespace Go.Proofs.Ytklfgpdfongaeaa
open Go Go.RowKit
set_option linter.unusedSimpArgs false
set_option linter.unusedVariables false

def flat (l : List ID32) : List UInt8 := l.flatMap (·.bytes)
theorem flat_len : ∀ l : List ID32, (flat l).length = 32 * l.length
  | [] => rfl
  | x :: l => by have := flat_len l; have := x.len; simp only [flat, List.flatMap_cons, List.length_append, List.length_cons] at *; omega
theorem flat_step {l : List ID32} {i : Nat} (a : List UInt8) (h : i < l.length) : (a ++ flat (l.take i)) ++ (l.getD i ID32.zero).bytes = a ++ flat (l.take (i + 1)) := by
  rw [List.append_assoc, List.take_succ_eq_append_getElem h, show l.getD i ID32.zero = l[i] by simp [List.getD, h]]
  congr 1
  unfold flat; rw [List.flatMap_append]; simp only [List.flatMap_cons, List.flatMap_nil, List.append_nil]
theorem flat_zero (a : List UInt8) (l : List ID32) : a = a ++ flat (l.take 0) := by simp [flat]
open Classical in
/-- The bytes of a list of ids, and the error. -/
noncomputable def idsOf (l : List ID32) : List UInt8 × Nat := if 60 < l.length then ([], 4) else if RisingP l then (numBytes l.length ++ flat l, 0) else ([], 32)
theorem idsOf_many {l : List ID32} (h : 60 < l.length) : idsOf l = ([], 4) := by unfold idsOf; rw [if_pos h]
theorem idsOf_ok {l : List ID32} (h : ¬ 60 < l.length) (h2 : RisingP l) : idsOf l = (numBytes l.length ++ flat l, 0) := by unfold idsOf; rw [if_neg h, if_pos h2]
theorem idsOf_no {l : List ID32} (h : ¬ 60 < l.length) (h2 : ¬ RisingP l) : idsOf l = ([], 32) := by unfold idsOf; rw [if_neg h, if_neg h2]
/-- The i-th id of some bytes; all of them. -/
def idAt (s : List UInt8) (i : Nat) : ID32 := ⟨(List.range 32).map fun j => s.getD (32 * i + j) 0, by simp⟩
def unflat (s : List UInt8) : List ID32 := (List.range (s.length / 32)).map (idAt s)
theorem unflat_len (s : List UInt8) : (unflat s).length = s.length / 32 := by simp [unflat]
theorem idAt_drop (s : List UInt8) (i : Nat) : idAt s i = idAt (s.drop (32 * i)) 0 := by
  refine ID32.ext' ?_
  simp only [idAt, Nat.mul_zero, Nat.zero_add]
  refine List.map_congr_left fun j _ => ?_
  simp [List.getD, List.getElem?_drop]
theorem idAt_bytes {s : List UInt8} (h : 32 ≤ s.length) : (idAt s 0).bytes = s.take 32 := by
  refine List.ext_getElem (by simp [idAt]; omega) fun j h1 h2 => ?_
  simp [idAt] at h1 ⊢
  simp [show j < s.length by omega]
theorem flat_unflat {s : List UInt8} {q : Nat} (h : s.length = 32 * q) : flat (unflat s) = s := by
  have key : ∀ (q : Nat) (s : List UInt8), s.length = 32 * q → flat ((List.range q).map (idAt s)) = s := by
    intro q
    induction q with
    | zero => intro s h; simp at h; subst h; rfl
    | succ q ih =>
      intro s h
      rw [List.range_succ_eq_map, List.map_cons, List.map_map]
      have e : (List.range q).map (idAt s ∘ Nat.succ) = (List.range q).map (idAt (s.drop 32)) := by
        refine List.map_congr_left fun j _ => ?_
        show idAt s (j + 1) = idAt (s.drop 32) j
        rw [idAt_drop s, idAt_drop (s.drop 32), List.drop_drop, show 32 * (j + 1) = 32 + 32 * j by omega]
      rw [e]
      show (idAt s 0).bytes ++ flat _ = s
      rw [ih (s.drop 32) (by rw [List.length_drop]; omega), idAt_bytes (by omega), List.take_append_drop]
  unfold unflat; rw [h, Nat.mul_div_cancel_left _ (by decide)]; exact key q s h
theorem unflat_flat (l : List ID32) : unflat (flat l) = l := by
  induction l with
  | nil => rfl
  | cons x l ih =>
    unfold unflat at *
    rw [flat_len] at *
    rw [Nat.mul_div_cancel_left _ (by decide)] at *
    rw [List.length_cons, List.range_succ_eq_map, List.map_cons, List.map_map]
    have hx := x.len
    have hf : flat (x :: l) = x.bytes ++ flat l := rfl
    congr 1
    · refine ID32.ext' ?_
      rw [idAt_bytes (by rw [flat_len]; simp; omega), hf, List.take_left' hx]
    · refine Eq.trans (List.map_congr_left fun j _ => ?_) ih
      show idAt (flat (x :: l)) (j + 1) = idAt (flat l) j
      rw [idAt_drop (flat (x :: l)), show 32 * (j + 1) = 32 + 32 * j by omega, ← List.drop_drop, hf, List.drop_left' hx, ← idAt_drop]
theorem idAt_bytes2 {s : List UInt8} {i : Nat} (h : 32 ≤ (s.drop (32 * i)).length) : (idAt s i).bytes = (s.drop (32 * i)).take 32 := by rw [idAt_drop]; exact idAt_bytes h
/-- The list as it stands when the first i ids are read. -/
def fillI (s : List UInt8) (i : Nat) : List ID32 := (List.range (s.length / 32)).map fun j => if j < i then idAt s j else ID32.zero
theorem fillI_len (s : List UInt8) (i : Nat) : (fillI s i).length = s.length / 32 := by simp [fillI]
theorem fillI_zero (s : List UInt8) : List.replicate (s.length / 32) ID32.zero = fillI s 0 := by
  refine List.ext_getElem (by simp [fillI]) fun j h1 h2 => ?_
  simp [fillI]
theorem fillI_last {s : List UInt8} {i : Nat} (h : i = s.length / 32) : fillI s i = unflat s := by
  subst h
  unfold fillI unflat
  exact List.map_congr_left fun j hj => by rw [if_pos (List.mem_range.1 hj)]
theorem fillI_step (s : List UInt8) (i : Nat) : (fillI s i).set i (idAt s i) = fillI s (i + 1) := by
  refine List.ext_getElem (by simp [fillI]) fun j h1 h2 => ?_
  rw [List.getElem_set]
  simp only [fillI, List.getElem_map, List.getElem_range]
  by_cases h : i = j
  · subst h; rw [if_pos rfl, if_pos (by omega)]
  · rw [if_neg h]
    by_cases h3 : j < i
    · rw [if_pos h3, if_pos (by omega)]
    · rw [if_neg h3, if_neg (by omega)]
theorem made_ids (z : Array Value) (hz : z = Array.replicate 32 (.int .u8 0)) (k : Nat) : (madeCells z (k * idsE.sz)).toList = idsE.cells (List.replicate k ID32.zero) := by
  have h1 : idsE.cells (List.replicate k ID32.zero) = List.replicate (k * 32) (.int .u8 0) := by
    induction k with
    | zero => rfl
    | succ k ih =>
      rw [List.replicate_succ]
      show (idsE.of ID32.zero) ++ idsE.cells (List.replicate k ID32.zero) = _
      rw [ih, show idsE.of ID32.zero = List.replicate 32 (.int .u8 0) from rfl, List.replicate_append_replicate, show 32 + k * 32 = (k + 1) * 32 by omega]
  rw [h1, hz]
  refine List.ext_getElem (by simp [madeCells, idsE]) fun j h2 h3 => ?_
  have h4 : j % 32 < 32 := Nat.mod_lt _ (by decide)
  simp [madeCells, h4]
open Classical in
/-- What reading a list of ids hands back. -/
noncomputable def readI (b : List UInt8) (most : Int) : List ID32 × Nat × Nat :=
  if (partL b most 32).2.2 ≠ 0 then ([], 0, (partL b most 32).2.2) else if RisingP (unflat (partL b most 32).1) then (unflat (partL b most 32).1, (partL b most 32).2.1, 0) else ([], 0, 12)
theorem readI_bad {b : List UInt8} {most : Int} (h : (partL b most 32).2.2 ≠ 0) : readI b most = ([], 0, (partL b most 32).2.2) := by unfold readI; rw [if_pos h]
theorem readI_ok {b : List UInt8} {most : Int} (h : (partL b most 32).2.2 = 0) (h2 : RisingP (unflat (partL b most 32).1)) : readI b most = (unflat (partL b most 32).1, (partL b most 32).2.1, 0) := by
  unfold readI; rw [if_neg (by omega), if_pos h2]
theorem readI_no {b : List UInt8} {most : Int} (h : (partL b most 32).2.2 = 0) (h2 : ¬ RisingP (unflat (partL b most 32).1)) : readI b most = ([], 0, 12) := by
  unfold readI; rw [if_neg (by omega), if_neg h2]
end Go.Proofs.Ytklfgpdfongaeaa
