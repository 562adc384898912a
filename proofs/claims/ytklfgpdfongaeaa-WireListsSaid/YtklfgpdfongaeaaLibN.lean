/- One id of a list that is read, as a slice of bytes. Over any program P. -/
import Derived.Test.YtklfgpdfongaeaaLibK
namespace Go.Proofs.Ytklfgpdfongaeaa
open Go Go.RowKit
set_option linter.unusedSimpArgs false
set_option linter.unusedVariables false

theorem RdL.elemID {w : World} {p : Option Addr} {c i : Nat} {l : List ID32} (h : RdL idsE w p c l) (hi : i < l.length) : RdL bytesE w (some (elemPtr (.slice p l.length c) (i * 32))) 32 (l.getD i ID32.zero).bytes := by
  have e : bytesE.cells (l.getD i ID32.zero).bytes = idsE.of (l.getD i ID32.zero) := bytesE_cells _
  have hg : l[i]? = some (l.getD i ID32.zero) := getD_some hi
  rcases h.2 with ⟨hv, h0⟩ | ⟨b, o, sp, cap, hv, h1, h2, hsp, h4⟩
  · omega
  · simp only [Value.slice.injEq] at hv
    obtain ⟨rfl, -, rfl⟩ := hv
    refine ⟨by rw [Enc.cells_len], .inr ⟨b, o + i * 32, none, 32, ?_, ?_, by decide, .inr rfl, fun j u hu => ?_⟩⟩
    · rw [(l.getD i ID32.zero).len]; rfl
    · rw [(l.getD i ID32.zero).len]; exact Nat.le_refl _
    · rw [e] at hu
      have hj : j < idsE.sz := by rw [← idsE.len (l.getD i ID32.zero)]; exact (List.getElem?_eq_some_iff.1 hu).1
      have := h4 (i * 32 + j) u (by rw [← hu]; exact idsE.cells_get l i j _ hg hj)
      rw [Nat.add_assoc]; exact this
section
variable {P : Program} {ops : Array Oper} {Q : Exit → Act → World → Prop} {a : Act} {w : World} {rest : List Oper} {n : Nat} {fl : List (Nat × Value)}
  {d : Tmp} {ty : TypeId} {pos : String} {after : Array Edge} {g : Option (Nat × Bool)}
theorem t_cutEr {T e : TypeId} {x : Operand} {p : Option Addr} {m cp j : Nat} (y : ID32) (f : Frm n fl a)
    (hw : Region.wanted ⟨some d, .slice T x none none none, ty, pos, after, g⟩ (yielded ops a.tmps) = true) (hd : Nat.blt d n = true)
    (hT : P.underlying T = some (.array 32 e)) {z : Value} {sz by_ : Nat} (hE : TI P e z sz by_) (hx : opv fl x = some (.pointer (some (elemPtr (.slice p m cp) j))))
    (c : ∀ a', Frm n ((d, .slice (some (elemPtr (.slice p m cp) j)) y.bytes.length 32) :: fl) a' → wpList P ops Q rest a' w) :
    wpList P ops Q (⟨some d, .slice T x none none none, ty, pos, after, g⟩ :: rest) a w := by
  rw [y.len] at c
  exact t_cutE f hw hd hT hE hx c
end
end Go.Proofs.Ytklfgpdfongaeaa
