/- SessionOver: for every input the law returns true, and each argument reads afterwards as it read before. No condition beyond the row's own. -/
import Derived.Test.YtklfgpdfongaeaaRows
import Derived.Test.YtklfgpdfongaeaaKL
import Derived.Test.YtklfgpdfongaeaaPSes3
namespace Go.Proofs.Ytklfgpdfongaeaa.lawSessionOver
open Go Go.RowKit Go.ChangeShapes Go.WideShapes Go.ChangeAt
set_option linter.unusedVariables false
set_option linter.unusedSimpArgs false

theorem own : ownKnob Try.prog.godebug = none := by kernel_rfl
theorem laidOut : laidOutB Try.prog = true := by kernel_rfl

set_option maxRecDepth 100000 in
theorem lifted (os : Os) (started : os.Started) (H : Type) (enc : TypeId × Value → H) :
    ReturnsInHanded {} Try.checked os 17 .any (Rows.sessionOverSpec.pre6 enc Try.prog Try.f17 Rows.sessionOverRow.domain false) (Rows.sessionOverSpec.post enc Try.prog Try.f17 false true false false) := by
  refine returnsInHanded_of_change (C := Try.checked) own started (by kernel_rfl) Try.func17
    (ChangeSpec.witness6 (enc := enc) (C := Try.checked) false ⟨#[], #[.agg #[.int .u8 (0), .int .i64 (0), .int .i64 (0), .int .i64 (0)], .agg #[.int .u8 (0), .int .u64 (0), .slice none 0 0, .slice none 0 0], .int .u8 (0), .int .u64 (0)], []⟩ 8 (by kernel_rfl) (by kernel_rfl) (by kernel_rfl) (by kernel_rfl)) ?_
  intro W base args ds gs before hval0 hW hcnd _
  have hval : ∀ (j : Nat) t v, Try.f17.params[j]? = some t → args[j]? = some v → Value.okWide Try.prog W .any base t v := hval0
  have hW' := hW
  obtain ⟨p, q, hA0, hV, rfl, hfz, hnd⟩ := hW
  have hA : DataW.TrodAll enc Try.prog W 0 (fun _ => true) true Try.f17.params.toList args.toList ds p := hA0
  rw [Try.params17] at hA hval
  obtain ⟨v0, vs0, d0, ds0, p0, q0, hargs, rfl, rfl, h0, r0⟩ := trodAll_cons hA
  obtain ⟨v1, vs1, d1, ds1, p1, q1, rfl, rfl, rfl, h1, r1⟩ := trodAll_cons r0
  obtain ⟨v2, vs2, d2, ds2, p2, q2, rfl, rfl, rfl, h2, r2⟩ := trodAll_cons r1
  obtain ⟨v3, vs3, d3, ds3, p3, q3, rfl, rfl, rfl, h3, r3⟩ := trodAll_cons r2
  obtain ⟨rfl, rfl, rfl⟩ := trodAll_nil r3
  obtain rfl : args = #[v0, v1, v2, v3] := by cases args; simp_all
  obtain ⟨rfl, rfl⟩ := trodVars_none hV
  have lt0 : ∀ x ∈ p0, x.block < W.heap.size := by obtain ⟨m, hm⟩ := h0; exact DataW.trod_lt m _ _ _ hm
  obtain ⟨y0, e0, w0⟩ := Opn.arg (R := R_api_Session) (wf := wf_api_Session) (Opn.struct (wf' := wf_api_Session) Try.underlying66 (by kernel_rfl) (OpnF.cons (Opn.u8 Try.underlying5) rfl (by kernel_rfl) (OpnF.cons (Opn.i64 Try.underlying3) rfl (by kernel_rfl) (OpnF.cons (Opn.i64 Try.underlying3) rfl (by kernel_rfl) (OpnF.cons (Opn.i64 Try.underlying3) rfl (by kernel_rfl) OpnF.nil)))) (fun p => ⟨p.1, p.2.1, p.2.2.1, p.2.2.2.1⟩) (fun _ => rfl) (fun _ h => h)) h0 (.inr ⟨rfl, ok5 Try.underlying66 (hval 0 66 v0 rfl rfl)⟩)
  have lt1 : ∀ x ∈ p1, x.block < W.heap.size := by obtain ⟨m, hm⟩ := h1; exact DataW.trod_lt m _ _ _ hm
  obtain ⟨y1, e1, w1⟩ := Opn.arg (R := R_api_Frame) (wf := wf_api_Frame) (Opn.struct (wf' := wf_api_Frame) Try.underlying105 (by kernel_rfl) (OpnF.cons (Opn.u8 Try.underlying5) rfl (by kernel_rfl) (OpnF.cons (Opn.u64 Try.underlying31) rfl (by kernel_rfl) (OpnF.cons (Opn.slice Try.underlying83 (by kernel_rfl) rfl (Opn.arr Try.underlying102 (by kernel_rfl) (by kernel_rfl) (Opn.u8 Try.underlying5))) rfl (by kernel_rfl) (OpnF.cons (Opn.slice Try.underlying103 (by kernel_rfl) rfl (Opn.slice Try.underlying32 (by kernel_rfl) rfl (Opn.u8 Try.underlying5))) rfl (by kernel_rfl) OpnF.nil)))) (fun p => ⟨p.1, p.2.1, p.2.2.1, p.2.2.2.1⟩) (fun _ => rfl) (fun _ h => h)) h1 (.inr ⟨rfl, ok5 Try.underlying105 (hval 1 105 v1 rfl rfl)⟩)
  have lt2 : ∀ x ∈ p2, x.block < W.heap.size := by obtain ⟨m, hm⟩ := h2; exact DataW.trod_lt m _ _ _ hm
  obtain ⟨y2, e2, w2⟩ := Opn.arg (R := u8R) (wf := (fun _ => True)) (Opn.u8 Try.underlying5) h2 (.inl ⟨rfl, ok1 Try.underlying5 (hval 2 5 v2 rfl rfl)⟩)
  have lt3 : ∀ x ∈ p3, x.block < W.heap.size := by obtain ⟨m, hm⟩ := h3; exact DataW.trod_lt m _ _ _ hm
  obtain ⟨y3, e3, w3⟩ := Opn.arg (R := u64R) (wf := (fun _ => True)) (Opn.u64 Try.underlying31) h3 (.inl ⟨rfl, ok1 Try.underlying31 (hval 3 31 v3 rfl rfl)⟩)
  clear hA0 hval0
  refine (Spec.law (W := W) (braidlaw25_SessionOver_ok _ _ _ _) (lawOver _ _ _ _ w0 w1 w2 w3) (vs := [v0, v1, v2, v3]) ⟨e0, ⟨e1, ⟨e2, ⟨e3, trivial⟩⟩⟩⟩).mono fun e W' ⟨he, bel⟩ => ?_
  subst he
  exact ⟨_, rfl, _, _, _, [], _, [], hW', trodAll_mk1 (shut_bool Try.underlying4 _), (trodAll_cons_mk (Below.trod laidOut (by kernel_rfl) (of_decide_eq_true (by kernel_rfl)) h0 bel lt0) (trodAll_cons_mk (Below.trod laidOut (by kernel_rfl) (of_decide_eq_true (by kernel_rfl)) h1 bel lt1) (trodAll_cons_mk (Below.trod laidOut (by kernel_rfl) (of_decide_eq_true (by kernel_rfl)) h2 bel lt2) (trodAll_cons_mk (Below.trod laidOut (by kernel_rfl) (of_decide_eq_true (by kernel_rfl)) h3 bel lt3) trodAll_mk0)))), rfl, bel.frame _, fun h => by cases h⟩

theorem over : Rows.sessionOverRow.holds Try.pinned (OpenSpec.ofChange Rows.sessionOverSpec) :=
  OpenClaim.holds_of_wide 17 Try.f17 rfl rfl rfl rfl rfl rfl rfl ⟨rfl, rfl, rfl, rfl, rfl⟩ rfl rfl rfl rfl rfl (by kernel_rfl) Try.func17 (by kernel_rfl)
    (of_decide_eq_true (by kernel_rfl)) (by unfold Func.isWrapper; first | (rw [if_pos (by decide +kernel)]; kernel_rfl) | (rw [if_neg (by decide +kernel)]; exact ⟨rfl, rfl⟩))
    (fun os started H enc _ => lifted os started H enc)

theorem proved : Rows.SessionOverSaid := over

end Go.Proofs.Ytklfgpdfongaeaa.lawSessionOver
