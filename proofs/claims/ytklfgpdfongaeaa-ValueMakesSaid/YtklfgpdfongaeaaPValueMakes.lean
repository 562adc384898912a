/- ValueMakes: for every input the law returns true, and each argument reads afterwards as it read before. No condition beyond the row's own. -/
import Derived.Test.YtklfgpdfongaeaaRows
import Derived.Test.YtklfgpdfongaeaaKL
import Derived.Test.YtklfgpdfongaeaaPMakes
namespace Go.Proofs.Ytklfgpdfongaeaa.lawValueMakes
open Go Go.RowKit Go.ChangeShapes Go.WideShapes Go.ChangeAt
set_option linter.unusedVariables false
set_option linter.unusedSimpArgs false

theorem own : ownKnob Try.prog.godebug = none := by kernel_rfl
theorem laidOut : laidOutB Try.prog = true := by kernel_rfl

set_option maxRecDepth 100000 in
theorem lifted (os : Os) (started : os.Started) (H : Type) (enc : TypeId × Value → H) :
    ReturnsInHanded {} Try.checked os 6 .any (Rows.valueMakesSpec.pre6 enc Try.prog Try.f6 Rows.valueMakesRow.domain false) (Rows.valueMakesSpec.post enc Try.prog Try.f6 false true false false) := by
  refine returnsInHanded_of_change (C := Try.checked) own started (by kernel_rfl) Try.func6
    (ChangeSpec.witness6 (enc := enc) (C := Try.checked) false ⟨#[], #[.agg #[.int .u8 (0), .int .i64 (0), .int .u64 (0), .string ByteArray.empty], .int .u64 (0), .int .i64 (0), .string ByteArray.empty], []⟩ 8 (by kernel_rfl) (by kernel_rfl) (by kernel_rfl) (by kernel_rfl)) ?_
  intro W base args ds gs before hval0 hW hcnd _
  have hval : ∀ (j : Nat) t v, Try.f6.params[j]? = some t → args[j]? = some v → Value.okWide Try.prog W .any base t v := hval0
  have hW' := hW
  obtain ⟨p, q, hA0, hV, rfl, hfz, hnd⟩ := hW
  have hA : DataW.TrodAll enc Try.prog W 0 (fun _ => true) true Try.f6.params.toList args.toList ds p := hA0
  rw [Try.params6] at hA hval
  obtain ⟨v0, vs0, d0, ds0, p0, q0, hargs, rfl, rfl, h0, r0⟩ := trodAll_cons hA
  obtain ⟨v1, vs1, d1, ds1, p1, q1, rfl, rfl, rfl, h1, r1⟩ := trodAll_cons r0
  obtain ⟨v2, vs2, d2, ds2, p2, q2, rfl, rfl, rfl, h2, r2⟩ := trodAll_cons r1
  obtain ⟨v3, vs3, d3, ds3, p3, q3, rfl, rfl, rfl, h3, r3⟩ := trodAll_cons r2
  obtain ⟨rfl, rfl, rfl⟩ := trodAll_nil r3
  obtain rfl : args = #[v0, v1, v2, v3] := by cases args; simp_all
  obtain ⟨rfl, rfl⟩ := trodVars_none hV
  have lt0 : ∀ x ∈ p0, x.block < W.heap.size := by obtain ⟨m, hm⟩ := h0; exact DataW.trod_lt m _ _ _ hm
  obtain ⟨y0, e0, w0⟩ := Opn.arg (R := R_api_Value) (wf := wf_api_Value) (Opn.struct (wf' := wf_api_Value) Try.underlying48 (by kernel_rfl) (OpnF.cons (Opn.u8 Try.underlying5) rfl (by kernel_rfl) (OpnF.cons (Opn.i64 Try.underlying2) rfl (by kernel_rfl) (OpnF.cons (Opn.u64 Try.underlying31) rfl (by kernel_rfl) (OpnF.cons (Opn.str Try.underlying9) rfl (by kernel_rfl) OpnF.nil)))) (fun p => ⟨p.1, p.2.1, p.2.2.1, p.2.2.2.1⟩) (fun _ => rfl) (fun _ h => h)) h0 (.inr ⟨rfl, ok5 Try.underlying48 (hval 0 48 v0 rfl rfl)⟩)
  have lt1 : ∀ x ∈ p1, x.block < W.heap.size := by obtain ⟨m, hm⟩ := h1; exact DataW.trod_lt m _ _ _ hm
  obtain ⟨y1, e1, w1⟩ := Opn.arg (R := u64R) (wf := (fun _ => True)) (Opn.u64 Try.underlying31) h1 (.inl ⟨rfl, ok1 Try.underlying31 (hval 1 31 v1 rfl rfl)⟩)
  have lt2 : ∀ x ∈ p2, x.block < W.heap.size := by obtain ⟨m, hm⟩ := h2; exact DataW.trod_lt m _ _ _ hm
  obtain ⟨y2, e2, w2⟩ := Opn.arg (R := i64R) (wf := inI) (Opn.i64 Try.underlying2) h2 (.inl ⟨rfl, ok1 Try.underlying2 (hval 2 2 v2 rfl rfl)⟩)
  have lt3 : ∀ x ∈ p3, x.block < W.heap.size := by obtain ⟨m, hm⟩ := h3; exact DataW.trod_lt m _ _ _ hm
  obtain ⟨y3, e3, w3⟩ := Opn.arg (R := strR) (wf := (fun s : List UInt8 => s.length ≤ 9223372036854775807)) (Opn.str Try.underlying9) h3 (.inl ⟨rfl, ok3 Try.underlying9 (hval 3 9 v3 rfl rfl)⟩)
  clear hA0 hval0
  refine (Spec.law (W := W) (braidlaw05_ValueMakes_ok _ _ _ _) (makes _ _ _ _ w0 w1 w2 w3) (vs := [v0, v1, v2, v3]) ⟨e0, ⟨e1, ⟨e2, ⟨e3, trivial⟩⟩⟩⟩).mono fun e W' ⟨he, bel⟩ => ?_
  subst he
  exact ⟨_, rfl, _, _, _, [], _, [], hW', trodAll_mk1 (shut_bool Try.underlying4 _), (trodAll_cons_mk (Below.trod laidOut (by kernel_rfl) (of_decide_eq_true (by kernel_rfl)) h0 bel lt0) (trodAll_cons_mk (Below.trod laidOut (by kernel_rfl) (of_decide_eq_true (by kernel_rfl)) h1 bel lt1) (trodAll_cons_mk (Below.trod laidOut (by kernel_rfl) (of_decide_eq_true (by kernel_rfl)) h2 bel lt2) (trodAll_cons_mk (Below.trod laidOut (by kernel_rfl) (of_decide_eq_true (by kernel_rfl)) h3 bel lt3) trodAll_mk0)))), rfl, bel.frame _, fun h => by cases h⟩

theorem over : Rows.valueMakesRow.holds Try.pinned (OpenSpec.ofChange Rows.valueMakesSpec) :=
  OpenClaim.holds_of_wide 6 Try.f6 rfl rfl rfl rfl rfl rfl rfl ⟨rfl, rfl, rfl, rfl, rfl⟩ rfl rfl rfl rfl rfl (by kernel_rfl) Try.func6 (by kernel_rfl)
    (of_decide_eq_true (by kernel_rfl)) (by unfold Func.isWrapper; first | (rw [if_pos (by decide +kernel)]; kernel_rfl) | (rw [if_neg (by decide +kernel)]; exact ⟨rfl, rfl⟩))
    (fun os started H enc _ => lifted os started H enc)

theorem proved : Rows.ValueMakesSaid := over

end Go.Proofs.Ytklfgpdfongaeaa.lawValueMakes
