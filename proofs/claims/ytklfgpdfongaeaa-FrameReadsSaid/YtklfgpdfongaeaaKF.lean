/- Copies into an array that is part of something of the call's own. Over any program. -/
import Derived.Test.YtklfgpdfongaeaaKD
import Derived.Laws.CopyRow
import Derived.Laws.Append
namespace Go.Proofs.Ytklfgpdfongaeaa
open Go Go.RowKit
set_option linter.unusedSimpArgs false
set_option linter.unusedVariables false
/-- n elements from k cells in, as a slice -/
def arrTo (v : Value) (k n : Nat) : Value := match rblk v with
  | some b => .slice (some ⟨b, k, none⟩) n n
  | none => v
theorem arrTo_base {v : Value} {b k n : Nat} (h : base v = some b) : arrTo v k n = .slice (some ⟨b, k, none⟩) n n := by unfold arrTo; rw [base_rblk h]
/-- an array with the first elements of a list -/
def vcopy {α : Type} {n : Nat} (x : Vector α n) (s : List α) : Vector α n := ⟨(s.take (min s.length n) ++ x.toList.drop (min s.length n)).toArray, by simp; omega⟩
theorem vcopy_list {α : Type} {n : Nat} (x : Vector α n) (s : List α) : (vcopy x s).toList = s.take (min s.length n) ++ x.toList.drop (min s.length n) := by
  unfold vcopy; rfl
section
variable {α : Type} {ρ : Type} {C : World → World → Prop} {P : Program} {Γ : Ctx} {l : Slots} {res : Res} {m : Option ρ} {os rest : List Oper} {N : ρ → Exit → Act → World → Prop} {d : Tmp} {ty : TypeId} {pos : String} {after : Array Edge} {g : Option (Nat × Bool)}
theorem cutW {R : Rep α} {n k : Nat} {v : Value} {c : Cont} {x' : Vector α n} {upd : Vector α n → Cont} {x : Operand} {T e : TypeId} {z : Value} {by_ : Nat} (r : Nat) (hx : opE l x = some (.val (ptrTo v k))) (hr : lr res r = some (v, c)) (hf : Foc c k (arrR n R) x' upd) (hT : P.underlying T = some (.array n e)) (hE : TI P e z R.sz by_) (hn : Nat.blt 0 n = true) :
    Run C P Γ l res ⟨some d, .slice T x none none none, ty, pos, after, g⟩ (.val (arrTo v k n)) := fun a w ha => by
  have hn : 0 < n := Eq.mp Nat.blt_eq hn
  have h1 := (ha.vl hx).1
  rcases ha.conts r v c hr with h2 | ⟨b, o, h2, h3, h4⟩
  · exact (hf.1 _ _ v h2).elim
  · obtain ⟨b', CC, T', a', cs, dd, k1, rfl, k3, rfl, k5, k6⟩ := hf.2 _ w v o h4
    rw [ptrTo_base k1] at h1
    refine ⟨_, fun w' _ => ?_, rfl, by rw [arrTo_base k1]; rfl⟩
    rw [arrTo_base k1]
    have hne : ¬ n = 0 := by omega
    simp [execOp, h1, Instr.sliceAt, run_underlying hT, Instr.sliceBounds, Instr.sureAddr, run_sizeOf hE, Sem.run_pure, Addr.add]
theorem lCpy {R : Rep α} {n k : Nat} {v : Value} {c : Cont} {x' : Vector α n} {upd : Vector α n → Cont} {x y : Operand} {T e : TypeId} {at_ : Array TypeId} {z : Value} {by_ : Nat} {s : List α} (r : Nat) (hn : Nat.blt d Γ.n = true) (hx : opE l x = some (.val (arrTo v k n))) (hr : lr res r = some (v, c)) (hf : Foc c k (arrR n R) x' upd) {E : Ent} (hy : opE l y = some E) (hv : Vw R res E s) (hat : at_[0]? = some T) (hT : P.underlying T = some (.slice e)) (hE : TI P e z R.sz by_)
    (kk : GL P os (Sta Γ ((d, .rd i64R (min s.length n : Nat)) :: l) ((r, some (v, upd (vcopy x' s))) :: res)) rest N m) : GL P os (Sta Γ l res) (⟨some d, .call ⟨.builtin .copy, #[x, y], at_⟩, ty, pos, after, none⟩ :: rest) N m := fun a w ha ρ hm => by
  have h1 := (ha.vl hx).1
  obtain ⟨p, cp, xs, j5, j2, j3⟩ := hv.get ha (ha.vl hy)
  rcases ha.conts r v c hr with h2 | ⟨b, o, h2, h3, h4⟩
  · exact (hf.1 _ _ v h2).elim
  · obtain ⟨b', CC, T', a', cs, dd, k1, rfl, k3, rfl, k5, k6⟩ := hf.2 _ w v o h4
    rw [arrTo_base k1] at h1
    obtain rfl := rblk_base h2 k1
    have k5 : relL R (Shr Γ.H res w) w cs x'.toList := k5
    have hlen : cs.length = n * R.sz := by rw [k5.len]; simp
    have hxl : xs.length = s.length * R.sz := j3.len
    have hmn : min s.length n ≤ n := Nat.min_le_right _ _
    have hms : min s.length n ≤ s.length := Nat.min_le_left _ _
    generalize hmm : min s.length n = mm at hmn hms kk
    have h5 : mm * R.sz ≤ n * R.sz := Nat.mul_le_mul_right _ hmn
    have h6 : mm * R.sz ≤ s.length * R.sz := Nat.mul_le_mul_right _ hms
    have hvl : (xs.take (mm * R.sz)).length = mm * R.sz := by simp; omega
    have hfirst : (Builtin.firstCells R.sz mm (.slice p s.length cp)).run P w = .ok (xs.take (mm * R.sz)).toArray w := by
      rcases j2.2 with ⟨hv, h0⟩ | ⟨b2, o2, sp, cap, hv, g1, g2, g4, g3⟩
      · simp only [Value.slice.injEq] at hv
        obtain ⟨rfl, _, rfl⟩ := hv
        have hx0 : xs = [] := List.eq_nil_of_length_eq_zero (by rw [hxl, h0]; simp)
        rw [hx0, run_firstCells_none]; simp
      · simp only [Value.slice.injEq, true_and] at hv
        obtain ⟨rfl, rfl⟩ := hv
        refine run_firstCells_some w R.sz mm _ _ _ _ hvl fun i u hu => ?_
        rw [List.getElem?_take] at hu
        split at hu
        · have hne : xs ≠ [] := fun e0 => by rw [e0] at hu; simp at hu
          obtain rfl := g4.resolve_left hne
          rw [add_none]; exact g3 i u hu
        · cases hu
    have hcc : CC.toList.length = CC.size := by simp
    rw [k3] at hcc
    simp only [List.length_append] at hcc
    have hst := run_storeCells_at (P := P) b' a'.length T' (xs.take (mm * R.sz)) 0 CC w h3 (by omega) (fun u hu => j3.one u (List.mem_of_mem_take hu))
    have hsp : (CC.toList.take (a'.length + 0) ++ xs.take (mm * R.sz) ++ CC.toList.drop (a'.length + 0 + (xs.take (mm * R.sz)).length)).toArray = (a' ++ (xs.take (mm * R.sz) ++ cs.drop (mm * R.sz)) ++ dd).toArray := by
      rw [k3, hvl]
      congr 1
      have e1 : (a' ++ cs ++ dd).take (a'.length + 0) = a' := by simp
      have e2 : (a' ++ cs ++ dd).drop (a'.length + 0 + mm * R.sz) = cs.drop (mm * R.sz) ++ dd := by
        rw [List.append_assoc, Nat.add_zero, List.drop_append, List.drop_eq_nil_of_le (by omega), Nat.add_sub_cancel_left, List.drop_append, List.nil_append]
        rw [show mm * R.sz - cs.length = 0 by omega, List.drop_zero]
      rw [e1, e2]; simp
    rw [hsp] at hst
    have hrun : (execOp a.eval ⟨some d, .call ⟨.builtin .copy, #[x, y], at_⟩, ty, pos, after, none⟩).run P w = .ok (.value (.int .i64 (mm : Int))) (w.setRow b' (a' ++ (xs.take (mm * R.sz) ++ cs.drop (mm * R.sz)) ++ dd).toArray) := by
      have hm2 : Nat.min s.length n = mm := hmm
      simp [execOp, resolve, invoke, builtin, h1, j5, Builtin.copy_, hat, run_underlying hT, Builtin.lenOf, hm2, run_sizeOf hE, hfirst]
      have hst' := hst
      simp only [List.append_assoc] at hst'
      simp [hst', goInt]
    have hrel : relL R (Shr Γ.H res w) w (xs.take (mm * R.sz) ++ cs.drop (mm * R.sz)) (vcopy x' s).toList := by
      rw [vcopy_list, hmm]
      exact (j3.take mm).append (k5.drop mm)
    obtain ⟨h7, -⟩ := ha.upd r (v := v) (c := upd (vcopy x' s)) (setRow_gr b' _) (fun b hb => ⟨v, c, hr, by cases hb; exact h2⟩) (fun b hb => .inl ⟨v, c, hr, hb⟩) (fun S' k' => .inr ⟨b', _, h2, setRow_heap w b' CC _ T' _ h3, k6 S' _ _ _ k' (hrel.mono k')⟩)
    exact st (g_none rfl) hrun (kk _ _ (h7.put hn rd_num') ρ hm)
/-- an array, some of its elements -/
theorem bldG {R : Rep α} {n : Nat} {x0 x' : Vector α n} {T e : TypeId} {z ze : Value} {sz by_ by2 : Nat} {parts : Array (Nat × Operand)} (hT : P.underlying T = some (.array n e)) (hI : TI P T z sz by_) (hz : Zr (arrR n R) z.cells.toList x0) (hE : TI P e ze R.sz by2)
    (h : Bld l (fun i : Nat => some (i * R.sz, R.sz)) (arrR n R) parts.toList x0 x') : Run C P Γ l res ⟨some d, .build T parts, ty, pos, after, g⟩ (.rd (arrR n R) x') := fun a w ha => by
  obtain ⟨C', h1, h2⟩ := h.get ha (hz _ w)
  refine ⟨.agg C', fun w' _ => q0_build rfl ?_, C'.toList, h2, by simp [Rep.val, arrR]⟩
  have e2 : (parts.map fun (i, x) => (i, a.eval x)).toList = parts.toList.map fun p => (p.1, a.eval p.2) := by simp
  unfold Instr.build
  simp only [Sem.run_bind, run_zero hI, Result.andThen, run_underlying hT, run_sizeOf hE, e2, h1]
  rfl
theorem vidx_ok {n : Nat} {v : Vector α n} {k : Nat} (h : k < n) : vidx v (k : Int) = some v[k] := by unfold vidx idx; simp [h]
end
end Go.Proofs.Ytklfgpdfongaeaa
