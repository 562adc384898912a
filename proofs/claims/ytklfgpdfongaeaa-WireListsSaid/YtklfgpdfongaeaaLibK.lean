/- Bytes copied into an id of a list of the call's own. Over any program P. -/
import Derived.Test.YtklfgpdfongaeaaLibJ
import Derived.Laws.CopyRow
import Derived.Laws.Append
namespace Go.Proofs.Ytklfgpdfongaeaa
open Go Go.RowKit
set_option linter.unusedSimpArgs false
set_option linter.unusedVariables false

section
variable {P : Program} {w : World}
theorem run_storeE {s : Value} {B T m S j sz : Nat} {xs xs' vs : List Value} (hv : vs.length = sz) (h1 : ∀ u ∈ vs, u.oneCell' = true) (ho : w.ownsRow B T S s m xs) (hfit : j + sz ≤ m * S) (hsz : 0 < sz)
    (hxs : xs.take j ++ vs ++ xs.drop (j + sz) = xs') :
    ∃ w', (storeCells (elemPtr s j) vs).run P w = .ok () w' ∧ w.grownBy w' s.ownBlock ∧ w'.ownsRow B T S s m xs' := by
  rcases ho.2 with ⟨rfl, rfl⟩ | ⟨g', cap, cur, rfl, hB, hg, h2, h3, h4, h5⟩
  · omega
  · have hms : m * S ≤ cap * S := Nat.mul_le_mul_right _ h2
    have hrun := run_storeCells_at (P := P) g' j T vs 0 cur w hg (by omega) h1
    simp only [Nat.add_zero] at hrun
    have hh : Bx (w.setRow g' (spl cur j vs)) g' (spl cur j vs) T := setRow_heap w g' cur _ T _ hg
    refine ⟨w.setRow g' (spl cur j vs), by simpa only [elemPtr, Nat.zero_add, spl] using hrun, setRow_gr _ _, ⟨?_, .inr ⟨g', cap, _, rfl, hB, hh, h2, h3, ?_, ?_⟩⟩⟩
    · subst hxs; have := ho.1; simp [hv]; omega
    · simp [spl, hv]; omega
    · subst hxs; subst h5
      simp only [spl, List.take_append, List.length_append, List.length_take, Array.length_toList, hv]
      apply List.ext_getElem?
      intro i
      simp only [List.getElem?_append, List.getElem?_take, List.getElem?_drop, List.length_append, List.length_take, List.length_drop, hv, Array.length_toList]
      repeat' split
      all_goals (first | rfl | omega | (congr 1; omega) | skip)
theorem run_storeID {B T cp : Nat} {p : Option Addr} {l : List ID32} {j : Nat} (x : ID32) (ho : OwL idsE w B T p cp l) (hj : j < l.length) :
    ∃ w', (storeCells (elemPtr (.slice p l.length cp) (j * 32)) (idsE.of x)).run P w = .ok () w' ∧ w.grownBy w' (sblk p) ∧ OwL idsE w' B T p cp (l.set j x) := by
  have hsz : idsE.sz = 32 := rfl
  obtain ⟨w', h1, h2, h3⟩ := run_storeE (P := P) (j := j * 32) (xs' := idsE.cells (l.set j x)) (idsE.len x) (idsE.one x) ho (by rw [hsz]; omega) idsE.pos (by rw [show j * 32 = j * idsE.sz from rfl]; exact idsE.cells_set l j x hj)
  refine ⟨w', h1, by rw [sblk_own] at h2; exact h2, ?_⟩
  unfold OwL; rw [List.length_set]; exact h3
end

section
variable {P : Program} {ops : Array Oper} {Q : Exit → Act → World → Prop} {a : Act} {w : World} {rest : List Oper} {n : Nat} {fl : List (Nat × Value)}
  {d : Tmp} {ty : TypeId} {pos : String} {after : Array Edge} {g : Option (Nat × Bool)}
/-- l[j][:] -/
theorem t_cutE {T e : TypeId} {x : Operand} {p : Option Addr} {m cp j : Nat} (f : Frm n fl a)
    (hw : Region.wanted ⟨some d, .slice T x none none none, ty, pos, after, g⟩ (yielded ops a.tmps) = true) (hd : Nat.blt d n = true)
    (hT : P.underlying T = some (.array 32 e)) {z : Value} {sz by_ : Nat} (hE : TI P e z sz by_) (hx : opv fl x = some (.pointer (some (elemPtr (.slice p m cp) j))))
    (c : ∀ a', Frm n ((d, .slice (some (elemPtr (.slice p m cp) j)) 32 32) :: fl) a' → wpList P ops Q rest a' w) :
    wpList P ops Q (⟨some d, .slice T x none none none, ty, pos, after, g⟩ :: rest) a w := by
  have h0 : (elemPtr (.slice p m cp) j).add 0 = elemPtr (.slice p m cp) j := by unfold elemPtr; split <;> exact add_none _ _ 0
  exact stv f hw hd (by simp [execOp, Instr.sliceAt, f.ev hx, run_underlying hT, Instr.sureAddr, Instr.sliceBounds, run_sizeOf hE, h0]) c
theorem t_copyID {T e : TypeId} {x y : Operand} {z : Value} {by_ B Tt : Nat} {p q : Option Addr} {cp cq j : Nat} {l l' : List ID32} {s : List UInt8} {at_ : Array TypeId} (u : ID32) (f : Frm n fl a)
    (hw : Region.wanted ⟨some d, .call ⟨.builtin .copy, #[x, y], at_⟩, ty, pos, after, g⟩ (yielded ops a.tmps) = true) (hd : Nat.blt d n = true)
    (hat : at_[0]? = some T) (hT : P.underlying T = some (.slice e)) (hE : TI P e z 1 by_) (hx : opv fl x = some (.slice (some (elemPtr (.slice p l.length cp) (j * 32))) 32 32)) (hy : opv fl y = some (.slice q s.length cq))
    (hr : RdL bytesE w q cq s) (hs : 32 ≤ s.length) (hu : u.bytes = s.take 32) (ho : OwL idsE w B Tt p cp l) (hj : j < l.length) (hl : l.set j u = l')
    (c : ∀ a' w', Frm n ((d, .int .i64 (((32 : Nat)) : Int)) :: fl) a' → w.grownBy w' (sblk p) → OwL idsE w' B Tt p cp l' → l'.length = l.length → wpList P ops Q rest a' w') :
    wpList P ops Q (⟨some d, .call ⟨.builtin .copy, #[x, y], at_⟩, ty, pos, after, g⟩ :: rest) a w := by
  subst hl
  obtain ⟨w', h1, h2, h3⟩ := run_storeID (P := P) u ho hj
  have hf : (Builtin.firstCells 1 32 (.slice q s.length cq)).run P w = .ok (idsE.of u).toArray w := by
    rcases hr.2 with ⟨hv, h0⟩ | ⟨b, o, sp, cap, hv, k1, k2, hsp, k3⟩
    · omega
    · simp only [Value.slice.injEq] at hv
      obtain ⟨rfl, -, rfl⟩ := hv
      have hne : bytesE.cells s ≠ [] := by intro h; have := hr.1; rw [h] at this; simp [bytesE] at this; omega
      have hsp' : sp = none := hsp.resolve_left hne
      subst hsp'
      refine run_firstCells_some w 1 32 _ _ _ (idsE.of u) (idsE.len u) fun i v hi => ?_
      rw [add_none]
      refine k3 i v ?_
      rw [bytesE_cells]
      have e : idsE.of u = (s.take 32).map encB := by show u.bytes.map encB = _; rw [hu]
      rw [e, List.map_take, List.getElem?_take] at hi
      split at hi
      · exact hi
      · cases hi
  have hm : Nat.min s.length 32 = 32 := Nat.min_eq_right hs
  refine stv (w' := w') f hw hd ?_ (fun a' f' => c a' w' f' h2 h3 (by simp))
  simp [execOp, resolve, invoke, builtin, f.ev hx, f.ev hy, Builtin.copy_, hat, run_underlying hT, Builtin.lenOf, hm, run_sizeOf hE, hf, h1]
  rfl
end
end Go.Proofs.Ytklfgpdfongaeaa
