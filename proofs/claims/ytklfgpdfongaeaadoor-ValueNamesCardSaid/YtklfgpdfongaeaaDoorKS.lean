/- Rows that list a package variable: from what the row says of it to the ghost of the walk. Over any program. -/
import Derived.Test.YtklfgpdfongaeaaDoorKL
import Derived.Test.YtklfgpdfongaeaaDoorKJ
import Derived.LaidMore
import Derived.Handed
import Derived.MakeChecks
import Derived.FnData
namespace Go.Proofs.YtklfgpdfongaeaaDoor
open Go Go.RowKit Go.ChangeShapes
set_option linter.unusedSimpArgs false
set_option linter.unusedVariables false
section
variable {P : Program} {w : World} {H : Type} {enc : TypeId × Value → H}
theorem arr_ints {base : Nat} {spare : Nat → Bool} {held : Bool} {fuel : Nat} {T e : TypeId} {n : Nat} {k : IntKind} {cs : List Value} {ds : List Int} {p : List MemPlace} (hT : P.underlying T = some (.array n e)) (he : P.underlying e = some (.int k)) (hc : P.cellsOf e = 1) (hl : P.cellsOf T = n)
    (h : DataW.trod enc P w base spare held fuel T cs = some (.agg (ds.map fun i => .lit (.int k i)), p)) : cs = ds.map (fun i => Value.int k i) := by
  obtain ⟨xs, m, -, hx, hlen, hxl, hi⟩ := DataW.trod_array hT h
  simp only [Prod.mk.injEq, DataW.agg.injEq] at hx
  have hx := hx.1
  have hlen2 : ds.length = n := by have := congrArg List.length hx; simpa [hxl] using this
  rw [hc] at hi
  apply List.ext_getElem
  · rw [hlen, hl]; simp [hlen2]
  · intro i h1 h2
    have hin : i < n := by rw [hlen, hl] at h1; exact h1
    have h3 := hi i hin
    rw [List.getElem?_eq_getElem (by omega)] at h3
    obtain ⟨v, e1, e2, -⟩ := DataW.trod_int he h3
    have e3 : (cs.drop (i * 1)).take 1 = [cs[i]] := by rw [Nat.mul_one, List.drop_eq_getElem_cons h1]; rfl
    rw [e3] at e1
    have e4 : cs[i] = .int k v := by simpa using e1
    have e5 : (xs.map (·.1))[i]'(by simp; omega) = .lit (.int k v) := by simp [e2]
    have e6 : (xs.map (·.1))[i]'(by simp; omega) = .lit (.int k (ds[i]'(by omega))) := by simp [← hx]
    rw [e5] at e6
    have e7 : v = ds[i]'(by omega) := by simpa using e6
    rw [e4, e7]; simp
theorem relL_nums {α : Type} {k : IntKind} {f : α → Int} {S : Blk} : ∀ l : List α, relL (numR k f) S w (l.map fun x => Value.int k (f x)) l
  | [] => rfl
  | x :: l => ⟨[.int k (f x)], _, rfl, rfl, relL_nums l⟩
/-- one variable that the row lists: an array of numbers -/
theorem glob_laid {nm : String} {d : DataW Unit} {g : Nat} {T e : TypeId} {n : Nat} {k : IntKind} {α : Type} {f : α → Int} {x : Vector α n} (h : laidMetH P [(nm, d)] w) (hp : ([(nm, d)].all fun x => x.2.handleName?.isNone) = true) (hg : P.globalNamed nm = some g) (ht : (P.globals[g]?).map (·.type) = some T)
    (hT : P.underlying T = some (.array n e)) (he : P.underlying e = some (.int k)) (hc : P.cellsOf e = 1) (hl : P.cellsOf T = n) (hn : 0 < n) (hd : d = .agg ((x.toList.map f).map fun i => .lit (.int k i))) : (Ent.rp (arrR n (numR k f)) x).holds (AllB w) w (.pointer (some ⟨g, 0, none⟩)) := by
  rw [MakeChecks.laidMetH_plain _ _ _ hp] at h
  obtain ⟨ps, ⟨g0, t0, cs0, f0, p0, q0, hg0, ht0, hv0, hd0, _, _⟩, _, _⟩ := h
  obtain rfl := Option.some.inj (hg.symm.trans hg0)
  obtain rfl := Option.some.inj (ht.symm.trans ht0)
  rw [hd] at hd0
  have hcs := arr_ints hT he hc hl hd0
  have hcell : ∀ (j : Nat) (u : Value), cs0.toList[j]? = some u → w.cell? ⟨g, 0 + j, none⟩ = some u := fun j u hu => by
    rw [Nat.zero_add, World.var?_cell hg hv0 j]; simpa using hu
  refine ⟨g, 0, cs0.toList, rfl, ?_, ?_, hcell⟩
  · have hz : cs0.toList.length = n := by rw [hcs]; simp
    have h0 : cs0.toList[0]? = some (cs0.toList[0]'(by omega)) := List.getElem?_eq_getElem (by omega)
    exact ⟨World.block_lt_of_cell? w ⟨g, 0 + 0, none⟩ (hcell 0 _ h0), fun r v c h => by simp [lr, lk] at h, fun h => h⟩
  · show relL (numR k f) (AllB w) w cs0.toList x.toList
    rw [hcs, List.map_map]
    exact relL_nums x.toList
/-- a law that is true of its arguments returns true, and leaves the world as it was; what it is lent it leaves too -/
theorem Spec.lawG {f : FuncId} {pin : List Ent} {rin : Res} {m : Option Bool} {vs : List Value} {W : World} (hS : Spec P f pin rin m (fun r nv => ⟨[.rd boolR r], rin⟩)) (hm : m = some true) (hv : holdsL (AllB W) W pin vs)
    (hb : ∀ r v c, lr rin r = some (v, c) → rblk v = none) (hc : ∀ r v c, lr rin r = some (v, c) → c.holds (AllB W) W v) :
    Calls P f vs.toArray W (fun e W' => e = .returned (.bool true) ∧ Ext W W') := by
  have hno : ∀ b, ¬ Bof rin b := fun b ⟨r, v, c, h, h2⟩ => by rw [hb r v c h] at h2; cases h2
  have hst : Stay (AllB W) (Shr (fun _ => False) rin W) W W := fun b hb' => ⟨⟨hb'.1, fun r v c h e => (by rw [hb r v c h] at e; cases e), fun h => h⟩, rfl⟩
  refine (hS true hm (fun _ => False) vs W (hv.mono hst) ⟨fun r v c h => (hc r v c h).mono hst (fun _ _ => rfl), fun r v c r' v' c' h _ _ b h2 => (by rw [hb r v c h] at h2; cases h2), fun b h => h.elim⟩).mono fun e W' h => ?_
  obtain ⟨nv, us, rfl, hp⟩ := h
  match us, hp.ret with
  | [u], ⟨h1, _⟩ =>
    obtain ⟨cs, h2, h3⟩ := h1
    have h2 : cs = [.bool true] := h2
    subst h2
    refine ⟨?_, hp.keep.os, hp.keep.tape, hp.keep.output, hp.keep.size, fun b hb => hp.keep.block b ⟨hb, hno b⟩⟩
    show Ending.returned u = _
    rw [h3]; rfl
end
end Go.Proofs.YtklfgpdfongaeaaDoor
