/- Ids compared with '=='. Over any program P. -/
import Derived.Test.YtklfgpdfongaeaaLibI
import Derived.ChangeKeysEq
import Derived.Laws.StructEq
namespace Go.Proofs.Ytklfgpdfongaeaa
open Go Go.RowKit
set_option linter.unusedSimpArgs false
set_option linter.unusedVariables false

section
variable {P : Program} {w : World}
theorem run_eqItems_id {e : TypeId} (hu : P.underlying e = some (.int .u8)) (x y : ID32) (d : Nat) : ∀ (is : List Nat), (∀ i ∈ is, i < 32) →
    (Op.eqItems (d + 1) e 1 (idsE.of x).toArray (idsE.of y).toArray is).run P w = .ok (is.all fun i => decide (x.bytes.getD i 0 = y.bytes.getD i 0)) w
  | [], _ => rfl
  | i :: is, h => by
    have hi := h i (by simp)
    have ih := run_eqItems_id hu x y d is (fun j hj => h j (by simp [hj]))
    have p1 : ∀ z : ID32, (part e (idsE.of z).toArray (i * 1)).run P w = .ok (.int .u8 ((z.bytes.getD i 0).toNat : Int)) w := by
      intro z
      rw [Nat.mul_one]
      simp only [part, isAgg, Sem.run_bind, run_underlying hu, Result.andThen, Sem.run_pure, idcellD z i hi]
      rfl
    have p2 : (Op.equalIn (d + 1) e (.int .u8 ((x.bytes.getD i 0).toNat : Int)) (.int .u8 ((y.bytes.getD i 0).toNat : Int))).run P w = .ok (decide (x.bytes.getD i 0 = y.bytes.getD i 0)) w := by
      have hb : ((((x.bytes.getD i 0).toNat : Nat) : Int) == (((y.bytes.getD i 0).toNat : Nat) : Int)) = decide (x.bytes.getD i 0 = y.bytes.getD i 0) := by
        generalize x.bytes.getD i 0 = u
        generalize y.bytes.getD i 0 = v
        by_cases h : u = v
        · subst h; simp
        · rw [decide_eq_false h]; exact beq_false_of_ne (fun h2 => h (UInt8.toNat_inj.1 (Int.ofNat.inj h2)))
      simp only [Op.equalIn, Sem.run_bind, run_underlying hu, Result.andThen]
      rw [← hb]; simp only [if_pos, Sem.run_pure]
    simp only [Op.eqItems, Sem.run_bind, p1, p2, Result.andThen]
    rw [List.all_cons]
    cases hc : decide (x.bytes.getD i 0 = y.bytes.getD i 0)
    · simp only [Bool.not_false, if_true, Sem.run_pure, Bool.false_and]
    · simp only [Bool.not_true, Bool.false_eq_true, if_false, Bool.true_and, ih]
theorem take_snocG {α} (d : α) {l : List α} {i : Nat} (h : i < l.length) : l.take (i + 1) = l.take i ++ [l.getD i d] := by
  rw [List.take_succ_eq_append_getElem h]; simp [List.getD, h]
theorem id_all (x y : ID32) : ((List.range 32).all fun i => decide (x.bytes.getD i 0 = y.bytes.getD i 0)) = decide (x = y) := by
  by_cases h : x = y
  · subst h; simp
  · rw [decide_eq_false h]
    refine Bool.eq_false_iff.2 fun h2 => h (ID32.ext' (List.ext_getElem (by rw [x.len, y.len]) fun i h3 h4 => ?_))
    have h5 := List.all_eq_true.1 h2 i (List.mem_range.2 (by have := x.len; omega))
    have h6 := of_decide_eq_true h5
    simpa [List.getD, List.getElem?_eq_getElem h3, List.getElem?_eq_getElem h4] using h6
theorem guard_id {T e : TypeId} (hT : P.underlying T = some (.array 32 e)) (hu : P.underlying e = some (.int .u8)) : P.eqGuardType P.depth T = false := by
  show P.eqGuardType (2 * (P.types.size + Made.depth) + 1 + 1) T = false
  rw [Program.eqGuardType]; simp only [hT]
  rw [Program.eqGuardType]; simp only [hu]
theorem run_eqIDs {T e : TypeId} {z : Value} {by_ : Nat} (hT : P.underlying T = some (.array 32 e)) (hE : TI P e z 1 by_) (hu : P.underlying e = some (.int .u8)) (x y : ID32) :
    (Op.equal T (.agg (idsE.of x).toArray) (.agg (idsE.of y).toArray)).run P w = .ok (decide (x = y)) w := by
  obtain ⟨i, hi, -, hs, -⟩ := hE
  have hc : P.cellsOf e = 1 := by unfold Program.cellsOf; rw [hi]; simpa using hs
  show (Op.equalIn (9998 + 1 + 1) T _ _).run P w = _
  rw [run_equalIn_array w _ _ _ hT hi, hc, run_eqItems_id hu x y _ _ (fun j hj => List.mem_range.1 hj), id_all]
end

section
variable {P : Program} {ops : Array Oper} {Q : Exit → Act → World → Prop} {a : Act} {w : World} {rest : List Oper} {n : Nat} {fl : List (Nat × Value)}
  {d : Tmp} {ty : TypeId} {pos : String} {after : Array Edge} {g : Option (Nat × Bool)} {qq : Act → Prop}
theorem run_neqID {T T' e : TypeId} {z : Value} {by_ : Nat} {x y : Operand} {u v : ID32} (f : Frm n fl a) (hT : P.underlying T = some (.array 32 e)) (hE : TI P e z 1 by_) (hu : P.underlying e = some (.int .u8))
    (hx : opv fl x = some (.agg (idsE.of u).toArray)) (hy : opv fl y = some (.agg (idsE.of v).toArray)) : (execOp a.eval ⟨some d, .binOp .neq T x y T', ty, pos, after, g⟩).run P w = .ok (.value (.bool (decide (u ≠ v)))) w := by
  simp [execOp, f.ev hx, f.ev hy, run_eqGuard_agg w _ _ _ _ _ _ (guard_id hT hu), binOp, run_eqIDs hT hE hu]
theorem run_eqlID {T T' e : TypeId} {z : Value} {by_ : Nat} {x y : Operand} {u v : ID32} (f : Frm n fl a) (hT : P.underlying T = some (.array 32 e)) (hE : TI P e z 1 by_) (hu : P.underlying e = some (.int .u8))
    (hx : opv fl x = some (.agg (idsE.of u).toArray)) (hy : opv fl y = some (.agg (idsE.of v).toArray)) : (execOp a.eval ⟨some d, .binOp .eql T x y T', ty, pos, after, g⟩).run P w = .ok (.value (.bool (decide (u = v)))) w := by
  simp [execOp, f.ev hx, f.ev hy, run_eqGuard_agg w _ _ _ _ _ _ (guard_id hT hu), binOp, run_eqIDs hT hE hu]
theorem q_neqID {T T' e : TypeId} {z : Value} {by_ : Nat} {x y : Operand} {u v : ID32} (f : Frm n fl a)
    (hw : Region.wanted ⟨some d, .binOp .neq T x y T', ty, pos, after, g⟩ (yielded ops a.tmps) = true) (hd : Nat.blt d n = true)
    (hT : P.underlying T = some (.array 32 e)) (hE : TI P e z 1 by_) (hu : P.underlying e = some (.int .u8))
    (hx : opv fl x = some (.agg (idsE.of u).toArray)) (hy : opv fl y = some (.agg (idsE.of v).toArray))
    (c : ∀ a', Frm n ((d, .bool (decide (u ≠ v))) :: fl) a' → wpQuiet P ops (Ext w) qq rest a') : wpQuiet P ops (Ext w) qq (⟨some d, .binOp .neq T x y T', ty, pos, after, g⟩ :: rest) a :=
  qtv f hw hd (fun w' _ => run_neqID f hT hE hu hx hy) c
theorem s_neqID {T T' e : TypeId} {z : Value} {by_ : Nat} {x y : Operand} {u v : ID32} (f : Frm n fl a)
    (hw : Region.wanted ⟨some d, .binOp .neq T x y T', ty, pos, after, g⟩ (yielded ops a.tmps) = true) (hd : Nat.blt d n = true)
    (hT : P.underlying T = some (.array 32 e)) (hE : TI P e z 1 by_) (hu : P.underlying e = some (.int .u8))
    (hx : opv fl x = some (.agg (idsE.of u).toArray)) (hy : opv fl y = some (.agg (idsE.of v).toArray))
    (c : ∀ a', Frm n ((d, .bool (decide (u ≠ v))) :: fl) a' → wpList P ops Q rest a' w) : wpList P ops Q (⟨some d, .binOp .neq T x y T', ty, pos, after, g⟩ :: rest) a w :=
  stv f hw hd (run_neqID f hT hE hu hx hy) c
theorem s_eqlID {T T' e : TypeId} {z : Value} {by_ : Nat} {x y : Operand} {u v : ID32} (f : Frm n fl a)
    (hw : Region.wanted ⟨some d, .binOp .eql T x y T', ty, pos, after, g⟩ (yielded ops a.tmps) = true) (hd : Nat.blt d n = true)
    (hT : P.underlying T = some (.array 32 e)) (hE : TI P e z 1 by_) (hu : P.underlying e = some (.int .u8))
    (hx : opv fl x = some (.agg (idsE.of u).toArray)) (hy : opv fl y = some (.agg (idsE.of v).toArray))
    (c : ∀ a', Frm n ((d, .bool (decide (u = v))) :: fl) a' → wpList P ops Q rest a' w) : wpList P ops Q (⟨some d, .binOp .eql T x y T', ty, pos, after, g⟩ :: rest) a w :=
  stv f hw hd (run_eqlID f hT hE hu hx hy) c
end
end Go.Proofs.Ytklfgpdfongaeaa
