/- From the row's readings of the arguments to the walks' own. Over any program P. -/
import Derived.Test.YtklfgpdfongaeaaLibQ
import Derived.ProofKit
import Derived.OpenShut
import Derived.ShutString
import Derived.ChangeOld
import Derived.Below
namespace Go.Proofs.Ytklfgpdfongaeaa
open Go Go.RowKit Go.ChangeShapes Go.WideShapes Go.ChangeAt
open Go.ChangeMaps (open_string shut_string)
set_option linter.unusedSimpArgs false
set_option linter.unusedVariables false

theorem nat_of_u64 {x : Int} (h : (Lit.int .u64 x).wf = true) : ∃ n : Nat, x = (n : Int) ∧ n < 18446744073709551616 := by
  simp [Lit.wf, IntKind.min, IntKind.max, IntKind.signed, IntKind.bits] at h
  exact ⟨x.toNat, by omega, by omega⟩
theorem nat_of_u32 {x : Int} (h : (Lit.int .u32 x).wf = true) : ∃ n : Nat, x = (n : Int) ∧ n < 4294967296 := by
  simp [Lit.wf, IntKind.min, IntKind.max, IntKind.signed, IntKind.bits] at h
  exact ⟨x.toNat, by omega, by omega⟩
theorem byte_of_u8 {x : Int} (h : (Lit.int .u8 x).wf = true) : ∃ b : UInt8, x = ((b.toNat : Nat) : Int) := by
  simp [Lit.wf, IntKind.min, IntKind.max, IntKind.signed, IntKind.bits] at h
  exact ⟨UInt8.ofNat x.toNat, by simp; omega⟩
theorem range_of_i64 {x : Int} (h : (Lit.int .i64 x).wf = true) : -9223372036854775808 ≤ x ∧ x ≤ 9223372036854775807 := by
  simp [Lit.wf, IntKind.min, IntKind.max, IntKind.signed, IntKind.bits] at h
  exact ⟨by omega, by omega⟩
section
variable {H : Type} {enc : TypeId × Value → H} {P : Program} {w : World} {base : Nat} {spare : Nat → Bool} {held : Bool}
theorem open_bytes {t e : TypeId} {a : Option Addr} {len cap : Nat} {d : DataW H} {ps : List MemPlace} (ht : P.underlying t = some (.slice e)) (he : P.underlying e = some (.int .u8)) (hc : P.cellsOf e = 1)
    (h : DataW.Trod enc P w base spare held t (.slice a len cap) d ps) : ∃ b : List UInt8, b.length = len ∧ RdL bytesE w a cap b := by
  obtain ⟨fuel, hf⟩ := h
  rcases open_ints ht he hc hf with ⟨hcs, _⟩ | ⟨x, l, c, zs, hcs, _, hl, hm, hz, _, hcell, hwz⟩
  · simp [Value.cells] at hcs
    obtain ⟨rfl, rfl, rfl⟩ := hcs
    exact ⟨[], rfl, RdL.nil⟩
  · simp [Value.cells] at hcs
    obtain ⟨rfl, rfl, rfl⟩ := hcs
    have hlz : len ≤ zs.length := by rw [hz]; split <;> omega
    have hln : ((zs.take len).map fun z => UInt8.ofNat z.toNat).length = len := by simp; omega
    refine ⟨(zs.take len).map fun z => UInt8.ofNat z.toNat, hln, ?_⟩
    obtain ⟨b, o, sp⟩ := x
    have hcl : bytesE.cells ((zs.take len).map fun z => UInt8.ofNat z.toNat) = (zs.take len).map (Value.int .u8) := by
      have : ∀ l : List Int, (∀ n ∈ l, (Lit.int .u8 n).wf = true) → bytesE.cells (l.map fun z => UInt8.ofNat z.toNat) = l.map (Value.int .u8) := by
        intro l hl
        induction l with
        | nil => rfl
        | cons z l ih =>
          have h1 := ih (fun n hn => hl n (by simp [hn]))
          have h2 := byte_of_u8 (hl z (by simp))
          obtain ⟨b, rfl⟩ := h2
          simp only [Enc.cells, List.map_cons, List.flatMap_cons] at h1 ⊢
          rw [h1]
          show encB _ :: _ = _
          simp [encB]
      exact this _ (fun n hn => hwz n (List.mem_of_mem_take hn))
    unfold RdL
    rw [hln, hcl]
    refine ⟨by simp [bytesE]; omega, .inr ⟨b, o, sp, cap, rfl, hl, hm, ?_, ?_⟩⟩
    · by_cases h0 : len = 0
      · left; simp [h0]
      · right
        have h1 := hcell 0 (by omega)
        simpa [Addr.add] using World.cell?_spot h1
    · intro j u hu
      have hj : j < len := by have := (List.getElem?_eq_some_iff.1 hu).1; simp at this; omega
      have h1 := hcell j (by omega)
      have h0 := hcell 0 (by omega)
      have hsp : sp = none := by simpa [Addr.add] using World.cell?_spot h0
      subst hsp
      rw [add_none] at h1
      rw [h1]
      simp only [List.getElem?_map, List.getElem?_take, if_pos hj] at hu
      rw [List.getElem?_eq_getElem (by omega)] at hu
      simp only [Option.map_some, Option.some.injEq] at hu
      rw [← hu]
      simp [List.getD, show j < zs.length by omega]
end
end Go.Proofs.Ytklfgpdfongaeaa
