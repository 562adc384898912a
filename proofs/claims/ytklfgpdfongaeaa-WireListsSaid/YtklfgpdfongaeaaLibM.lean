/- From the row's reading of a list of ids to the walks' own. Over any program P. -/
import Derived.Test.YtklfgpdfongaeaaLibL
import Derived.Deep.Slices
import Derived.DataReads
namespace Go.Proofs.Ytklfgpdfongaeaa
open Go Go.RowKit Go.ChangeShapes Go.WideShapes Go.ChangeAt
set_option linter.unusedSimpArgs false
set_option linter.unusedVariables false

def toB : Value → UInt8
  | .int _ z => UInt8.ofNat z.toNat
  | _ => 0
section
variable {H : Type} {enc : TypeId × Value → H} {P : Program} {w : World} {base : Nat} {spare : Nat → Bool} {held : Bool}
theorem id_of_trod {e b : TypeId} {fuel : Nat} {cs : List Value} {x : DataW H × List MemPlace} (he : P.underlying e = some (.array 32 b)) (hb : P.underlying b = some (.int .u8)) (hce : P.cellsOf e = 32) (hcb : P.cellsOf b = 1)
    (h : DataW.trod enc P w base spare held fuel e cs = some x) : ∃ y : ID32, cs = idsE.of y := by
  obtain ⟨xs, m, -, -, hl, hxl, hi⟩ := DataW.trod_array he h
  rw [hce] at hl
  refine ⟨⟨cs.map toB, by simp [hl]⟩, ?_⟩
  show cs = (cs.map toB).map encB
  refine List.ext_getElem (by simp) fun i h1 h2 => ?_
  have h3 := hi i (by omega)
  rw [hcb, Nat.mul_one, List.getElem?_eq_getElem (by omega)] at h3
  obtain ⟨z, hz, -, hwz⟩ := DataW.trod_int hb h3
  obtain ⟨u, rfl⟩ := byte_of_u8 hwz
  have h4 : cs[i] = .int .u8 ((u.toNat : Nat) : Int) := by
    have := congrArg List.head? hz
    rw [List.head?_take, List.head?_drop] at this
    simpa [h1] using this
  simp only [List.getElem_map, h4, toB, encB]
  simp
instance : Inhabited ID32 := ⟨ID32.zero⟩
theorem open_ids {t e b : TypeId} {a : Option Addr} {len cap : Nat} {d : DataW H} {ps : List MemPlace} (ht : P.underlying t = some (.slice e)) (he : P.underlying e = some (.array 32 b)) (hb : P.underlying b = some (.int .u8))
    (hce : P.cellsOf e = 32) (hcb : P.cellsOf b = 1)
    (h : DataW.Trod enc P w base spare held t (.slice a len cap) d ps) : ∃ l : List ID32, l.length = len ∧ RdL idsE w a cap l := by
  obtain ⟨fuel, hf⟩ := h
  rcases Go.Deep.open_slice ht hf with ⟨hcs, _⟩ | ⟨x, l, c, m, n, D, Pl, hcs, hbase, hl, hm, hm2, -, hall⟩
  · simp [Value.cells] at hcs
    obtain ⟨rfl, rfl, rfl⟩ := hcs
    exact ⟨[], rfl, RdL.nil⟩
  · simp [Value.cells] at hcs
    obtain ⟨rfl, rfl, rfl⟩ := hcs
    have hlm : len ≤ m := by rw [hm2]; split <;> omega
    obtain ⟨F, hF⟩ := Go.Deep.choose_lt (α := ID32) (n := len) (p := fun i y => w.cells? base (x.add (i * 32)) 32 = some (idsE.of y)) (fun i hi => by
      obtain ⟨cs', h1, h2⟩ := hall i (by omega)
      rw [hce] at h1
      obtain ⟨y, rfl⟩ := id_of_trod he hb hce hcb h2
      exact ⟨y, h1⟩)
    have hcell : ∀ i, i < len → ∀ k, k < 32 → w.cell? ((x.add (i * 32)).add k) = (idsE.of (F i))[k]? := by
      intro i hi k hk
      have h1 := hF i hi
      exact (World.cells?_some h1).2.2 k hk
    have hln : ((List.range len).map F).length = len := by simp
    refine ⟨(List.range len).map F, hln, ?_⟩
    obtain ⟨bk, o, sp⟩ := x
    have hspot : 0 < len → sp = none := by
      intro h0
      have h1 := hcell 0 h0 0 (by decide)
      have h2 : (idsE.of (F 0))[0]? = some ((idsE.of (F 0))[0]'(by rw [idsE.len]; decide)) := List.getElem?_eq_getElem _
      rw [h2] at h1
      simpa [Addr.add] using World.cell?_spot h1
    unfold RdL
    rw [hln]
    refine ⟨by rw [Enc.cells_len, hln], .inr ⟨bk, o, sp, cap, rfl, hl, hm, ?_, fun j u hu => ?_⟩⟩
    · by_cases h0 : len = 0
      · left; subst h0; rfl
      · right; exact hspot (by omega)
    · have hj : j < len * 32 := by have := (List.getElem?_eq_some_iff.1 hu).1; rw [Enc.cells_len, hln] at this; exact this
      have hi : j / 32 < len := by omega
      have hk : j % 32 < 32 := Nat.mod_lt _ (by decide)
      have e1 : ((List.range len).map F)[j / 32]? = some (F (j / 32)) := by simp [hi]
      have h1 := idsE.cells_get _ (j / 32) (j % 32) _ e1 hk
      rw [show j / 32 * idsE.sz + j % 32 = j by show j / 32 * 32 + j % 32 = j; omega] at h1
      have h2 := hcell (j / 32) hi (j % 32) hk
      have hsp := hspot (by omega)
      subst hsp
      rw [add_none, add_none, show o + j / 32 * 32 + j % 32 = o + j by omega] at h2
      rw [h2, ← h1]; exact hu
end
end Go.Proofs.Ytklfgpdfongaeaa
