import Derived.Test.YtklfgpdfongaeaaZFFrameSplits
namespace Go.Proofs.Ytklfgpdfongaeaa.lawFrameDiffer
open Go Go.RowKit Go.ChangeShapes Go.WideShapes Go.ChangeAt
set_option linter.unusedVariables false
set_option linter.unusedSimpArgs false
theorem own : ownKnob Try.prog.godebug = none := by kernel_rfl
theorem laidOut : laidOutB Try.prog = true := by kernel_rfl
set_option maxRecDepth 100000 in
theorem lifted (os : Os) (started : os.Started) (H : Type) (enc : TypeId × Value → H) :
    ReturnsInHanded {} Try.checked os 21 .any (Rows.frameDifferSpec.pre6 enc Try.prog Try.f21 Rows.frameDifferRow.domain false) (Rows.frameDifferSpec.post enc Try.prog Try.f21 false true false false) := by
  refine returnsInHanded_of_change (C := Try.checked) own started (by kernel_rfl) Try.func21
    (ChangeSpec.witness6 (enc := enc) (C := Try.checked) false ⟨#[], #[.agg #[.int .u8 (0), .int .u64 (0), .slice none 0 0, .slice none 0 0], .agg #[.int .u8 (0), .int .u64 (0), .slice none 0 0, .slice none 0 0]], []⟩ 8 (by kernel_rfl) (by kernel_rfl) (by kernel_rfl) (by kernel_rfl)) ?_
  intro W base args ds gs before hval0 hW hcnd _
  have hval : ∀ (j : Nat) t v, Try.f21.params[j]? = some t → args[j]? = some v → Value.okWide Try.prog W .any base t v := hval0
  have hW' := hW
  obtain ⟨p, q, hA0, hV, rfl, hfz, hnd⟩ := hW
  have hA : DataW.TrodAll enc Try.prog W 0 (fun _ => true) true Try.f21.params.toList args.toList ds p := hA0
  rw [Try.params21] at hA hval
  obtain ⟨v0, vs0, d0, ds0, p0, q0, hargs, rfl, rfl, h0, r0⟩ := trodAll_cons hA
  obtain ⟨v1, vs1, d1, ds1, p1, q1, rfl, rfl, rfl, h1, r1⟩ := trodAll_cons r0
  obtain ⟨rfl, rfl, rfl⟩ := trodAll_nil r1
  obtain rfl : args = #[v0, v1] := by cases args; simp_all
  obtain ⟨rfl, rfl⟩ := trodVars_none hV
  have lt0 : ∀ x ∈ p0, x.block < W.heap.size := by obtain ⟨m, hm⟩ := h0; exact DataW.trod_lt m _ _ _ hm
  obtain ⟨y0, e0, w0⟩ := Opn.arg (R := R_api_Frame) (wf := wf_api_Frame) (Opn.struct (wf' := wf_api_Frame) Try.underlying105 (by kernel_rfl) (OpnF.cons (Opn.u8 Try.underlying5) rfl (by kernel_rfl) (OpnF.cons (Opn.u64 Try.underlying31) rfl (by kernel_rfl) (OpnF.cons (Opn.slice Try.underlying83 (by kernel_rfl) rfl (Opn.arr Try.underlying102 (by kernel_rfl) (by kernel_rfl) (Opn.u8 Try.underlying5))) rfl (by kernel_rfl) (OpnF.cons (Opn.slice Try.underlying103 (by kernel_rfl) rfl (Opn.slice Try.underlying32 (by kernel_rfl) rfl (Opn.u8 Try.underlying5))) rfl (by kernel_rfl) OpnF.nil)))) (fun p => ⟨p.1, p.2.1, p.2.2.1, p.2.2.2.1⟩) (fun _ => rfl) (fun _ h => h)) h0 (.inr ⟨rfl, ok5 Try.underlying105 (hval 0 105 v0 rfl rfl)⟩)
  have lt1 : ∀ x ∈ p1, x.block < W.heap.size := by obtain ⟨m, hm⟩ := h1; exact DataW.trod_lt m _ _ _ hm
  obtain ⟨y1, e1, w1⟩ := Opn.arg (R := R_api_Frame) (wf := wf_api_Frame) (Opn.struct (wf' := wf_api_Frame) Try.underlying105 (by kernel_rfl) (OpnF.cons (Opn.u8 Try.underlying5) rfl (by kernel_rfl) (OpnF.cons (Opn.u64 Try.underlying31) rfl (by kernel_rfl) (OpnF.cons (Opn.slice Try.underlying83 (by kernel_rfl) rfl (Opn.arr Try.underlying102 (by kernel_rfl) (by kernel_rfl) (Opn.u8 Try.underlying5))) rfl (by kernel_rfl) (OpnF.cons (Opn.slice Try.underlying103 (by kernel_rfl) rfl (Opn.slice Try.underlying32 (by kernel_rfl) rfl (Opn.u8 Try.underlying5))) rfl (by kernel_rfl) OpnF.nil)))) (fun p => ⟨p.1, p.2.1, p.2.2.1, p.2.2.2.1⟩) (fun _ => rfl) (fun _ h => h)) h1 (.inr ⟨rfl, ok5 Try.underlying105 (hval 1 105 v1 rfl rfl)⟩)
  clear hA0 hval0
  refine (Spec.law (W := W) (braidlaw07_FrameDiffer_ok _ _) (differ7 _ _ w0 w1) (vs := [v0, v1]) ⟨e0, ⟨e1, trivial⟩⟩).mono fun e W' ⟨he, bel⟩ => ?_
  subst he
  exact ⟨_, rfl, _, _, _, [], _, [], hW', trodAll_mk1 (shut_bool Try.underlying4 _), (trodAll_cons_mk (Below.trod laidOut (by kernel_rfl) (of_decide_eq_true (by kernel_rfl)) h0 bel lt0) (trodAll_cons_mk (Below.trod laidOut (by kernel_rfl) (of_decide_eq_true (by kernel_rfl)) h1 bel lt1) trodAll_mk0)), rfl, bel.frame _, fun h => by cases h⟩
theorem over : Rows.frameDifferRow.holds Try.pinned (OpenSpec.ofChange Rows.frameDifferSpec) :=
  OpenClaim.holds_of_wide 21 Try.f21 rfl rfl rfl rfl rfl rfl rfl ⟨rfl, rfl, rfl, rfl, rfl⟩ rfl rfl rfl rfl rfl (by kernel_rfl) Try.func21 (by kernel_rfl)
    (of_decide_eq_true (by kernel_rfl)) (by unfold Func.isWrapper; first | (rw [if_pos (by decide +kernel)]; kernel_rfl) | (rw [if_neg (by decide +kernel)]; exact ⟨rfl, rfl⟩))
    (fun os started H enc _ => lifted os started H enc)
theorem proved : Rows.FrameDifferSaid := over
end Go.Proofs.Ytklfgpdfongaeaa.lawFrameDiffer
