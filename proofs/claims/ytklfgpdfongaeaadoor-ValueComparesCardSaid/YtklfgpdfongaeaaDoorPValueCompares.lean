/- ValueCompares: for every input the law returns true, and each argument reads afterwards as it read before, where the package variables that the row lists start as the program's text lays them. No condition beyond the card's own. -/
import Derived.Test.YtklfgpdfongaeaaDoorRows
import Derived.Test.YtklfgpdfongaeaaDoorTie
import Derived.Test.YtklfgpdfongaeaaDoorCards
import Derived.Test.YtklfgpdfongaeaaDoorKS
import Derived.Test.YtklfgpdfongaeaaDoorQCp2
import Derived.LaidMore
import Derived.OpenShut
import Derived.SevenTiedAt
namespace Go.Proofs.YtklfgpdfongaeaaDoor.lawValueCompares
open Go Go.RowKit Go.ChangeShapes Go.WideShapes Go.ChangeAt
set_option linter.unusedVariables false
set_option linter.unusedSimpArgs false

theorem own : ownKnob Tryd.prog.godebug = none := by kernel_rfl
theorem laidOut : laidOutB Tryd.prog = true := by kernel_rfl
theorem door_met (os : Os) (args : Array Value) : laidMetH Tryd.prog [("math/bits.deBruijn64tab", Rows.laid_math_bits_deBruijn64tab)] ((World.doorLaid Tryd.prog 400 os).forCall (fun _ _ => 0) ⟨#[], args, []⟩).memory :=
  laidMetH_of_parts3 (fuel := 8) (laidMet_of_run' 8 (by kernel_rfl) (by kernel_rfl)) (by kernel_rfl) (by kernel_rfl)

set_option maxRecDepth 100000 in
theorem lifted (os : Os) (started : os.Started) (H : Type) (enc : TypeId × Value → H) :
    ReturnsInHanded {} Tryd.checked os 6 .any (fun w args => (Rows.valueComparesSpec.pre enc Tryd.prog Tryd.f6 [] false w args ∧ laidMetH Tryd.prog [("math/bits.deBruijn64tab", Rows.laid_math_bits_deBruijn64tab)] w) ∧ sizedMet enc Tryd.prog Tryd.f6 (OpenSpec.ofChange Rows.valueComparesSpec) false w args)
      (Rows.valueComparesSpec.post enc Tryd.prog Tryd.f6 false true false false) := by
  refine returnsInHanded_of_change_and (C := Tryd.checked) (X := fun w _ => laidMetH Tryd.prog [("math/bits.deBruijn64tab", Rows.laid_math_bits_deBruijn64tab)] w) (fun _ _ _ hh h => h.of_heap hh) own started (by kernel_rfl) Tryd.func6
    (ChangeSpec.witness_shaped (enc := enc) (C := Tryd.checked) (os := os) (X := fun w _ => laidMetH Tryd.prog [("math/bits.deBruijn64tab", Rows.laid_math_bits_deBruijn64tab)] w) false (World.doorLaid Tryd.prog 400 os) #[.agg #[.int .u8 (0), .int .i64 (0), .int .u64 (0), .string ByteArray.empty], .agg #[.int .u8 (0), .int .i64 (0), .int .u64 (0), .string ByteArray.empty], .slice none 0 0] 8 rfl (World.shaped_of_RefB (by kernel_rfl) (by kernel_rfl)) (by kernel_rfl) (by kernel_rfl) (by kernel_rfl) (door_met os _)) ?_
  intro W base args ds gs before hval0 hW _ _ hL _
  have hval : ∀ (j : Nat) t v, Tryd.f6.params[j]? = some t → args[j]? = some v → Value.okWide Tryd.prog W .any base t v := hval0
  have hW' := hW
  obtain ⟨p, q, hA0, hV, rfl, hfz, hnd⟩ := hW
  have hA : DataW.TrodAll enc Tryd.prog W 0 (fun _ => true) true Tryd.f6.params.toList args.toList ds p := hA0
  rw [Tryd.params6] at hA hval
  obtain ⟨v0, vs0, d0, ds0, p0, q0, hargs, rfl, rfl, h0, r0⟩ := trodAll_cons hA
  obtain ⟨v1, vs1, d1, ds1, p1, q1, rfl, rfl, rfl, h1, r1⟩ := trodAll_cons r0
  obtain ⟨v2, vs2, d2, ds2, p2, q2, rfl, rfl, rfl, h2, r2⟩ := trodAll_cons r1
  obtain ⟨rfl, rfl, rfl⟩ := trodAll_nil r2
  obtain rfl : args = #[v0, v1, v2] := by cases args; simp_all
  obtain ⟨rfl, rfl⟩ := trodVars_none hV
  have lt0 : ∀ x ∈ p0, x.block < W.heap.size := by obtain ⟨m, hm⟩ := h0; exact DataW.trod_lt m _ _ _ hm
  obtain ⟨y0, e0, w0⟩ := Opn.arg (R := R_api_Value) (wf := wf_api_Value) (Opn.struct (wf' := wf_api_Value) Tryd.underlying24 (by kernel_rfl) (OpnF.cons (Opn.u8 Tryd.underlying5) rfl (by kernel_rfl) (OpnF.cons (Opn.i64 Tryd.underlying2) rfl (by kernel_rfl) (OpnF.cons (Opn.u64 Tryd.underlying22) rfl (by kernel_rfl) (OpnF.cons (Opn.str Tryd.underlying9) rfl (by kernel_rfl) OpnF.nil)))) (fun p => ⟨p.1, p.2.1, p.2.2.1, p.2.2.2.1⟩) (fun _ => rfl) (fun _ h => h)) h0 (.inr ⟨rfl, ok5 Tryd.underlying24 (hval 0 24 v0 rfl rfl)⟩)
  have lt1 : ∀ x ∈ p1, x.block < W.heap.size := by obtain ⟨m, hm⟩ := h1; exact DataW.trod_lt m _ _ _ hm
  obtain ⟨y1, e1, w1⟩ := Opn.arg (R := R_api_Value) (wf := wf_api_Value) (Opn.struct (wf' := wf_api_Value) Tryd.underlying24 (by kernel_rfl) (OpnF.cons (Opn.u8 Tryd.underlying5) rfl (by kernel_rfl) (OpnF.cons (Opn.i64 Tryd.underlying2) rfl (by kernel_rfl) (OpnF.cons (Opn.u64 Tryd.underlying22) rfl (by kernel_rfl) (OpnF.cons (Opn.str Tryd.underlying9) rfl (by kernel_rfl) OpnF.nil)))) (fun p => ⟨p.1, p.2.1, p.2.2.1, p.2.2.2.1⟩) (fun _ => rfl) (fun _ h => h)) h1 (.inr ⟨rfl, ok5 Tryd.underlying24 (hval 1 24 v1 rfl rfl)⟩)
  have lt2 : ∀ x ∈ p2, x.block < W.heap.size := by obtain ⟨m, hm⟩ := h2; exact DataW.trod_lt m _ _ _ hm
  obtain ⟨y2, e2, w2⟩ := Opn.arg (R := (sliceR u8R)) (wf := (fun l : List UInt8 => (∀ x ∈ l, (fun _ => True) x) ∧ l.length ≤ 9223372036854775807)) (Opn.slice Tryd.underlying40 (by kernel_rfl) rfl (Opn.u8 Tryd.underlying5)) h2 (.inl ⟨rfl, ok4 Tryd.underlying40 (hval 2 40 v2 rfl rfl)⟩)
  clear hA0 hval0
  have hG := glob_laid (x := gtab1) (f := fun x : UInt8 => (x.toNat : Int)) hL rfl (by kernel_rfl : Tryd.prog.globalNamed "math/bits.deBruijn64tab" = some 1) (by kernel_rfl : (Tryd.prog.globals[1]?).map (·.type) = some 98) Tryd.underlying98 Tryd.underlying5 (by kernel_rfl) (by kernel_rfl) (by decide) (by kernel_rfl)
  have only : ∀ r v c, lr [(1001, some (Value.bool true, Cont.glob 1 ((arrR 64 u8R)) gtab1))] r = some (v, c) → v = .bool true ∧ c = Cont.glob 1 ((arrR 64 u8R)) gtab1 := fun r v c h => by
    rw [lr_cons] at h
    split at h
    · cases h; exact ⟨rfl, rfl⟩
    · simp [lr, lk] at h
  refine (Spec.lawG (W := W) (braidlaw05_ValueCompares_ok _ _ _) (compares _ _ _ w0 w1 w2) (vs := [v0, v1, v2]) ⟨e0, ⟨e1, ⟨e2, trivial⟩⟩⟩ (fun r v c h => by rw [(only r v c h).1]; rfl) (fun r v c h => by rw [(only r v c h).1, (only r v c h).2]; exact .inl ⟨rfl, hG⟩)).mono fun e W' ⟨he, bel⟩ => ?_
  subst he
  exact ⟨_, rfl, _, _, _, [], _, [], hW', trodAll_mk1 (shut_bool Tryd.underlying4 _), (trodAll_cons_mk (Below.trod laidOut (by kernel_rfl) (of_decide_eq_true (by kernel_rfl)) h0 bel lt0) (trodAll_cons_mk (Below.trod laidOut (by kernel_rfl) (of_decide_eq_true (by kernel_rfl)) h1 bel lt1) (trodAll_cons_mk (Below.trod laidOut (by kernel_rfl) (of_decide_eq_true (by kernel_rfl)) h2 bel lt2) trodAll_mk0))), rfl, bel.frame _, fun h => by cases h⟩

theorem over : Rows.valueComparesRow.holds Tryd.pinned (OpenSpec.ofChange Rows.valueComparesSpec) :=
  OpenClaim.holds_of_wide 6 Tryd.f6 rfl rfl rfl rfl rfl rfl rfl ⟨rfl, rfl, rfl, rfl, rfl⟩ rfl rfl rfl rfl rfl (by kernel_rfl) Tryd.func6 (by kernel_rfl)
    (of_decide_eq_true (by kernel_rfl)) (by unfold Func.isWrapper; first | (rw [if_pos (by decide +kernel)]; kernel_rfl) | (rw [if_neg (by decide +kernel)]; exact ⟨rfl, rfl⟩))
    (fun os started H enc _ => lifted os started H enc)

theorem proved : Rows.ValueComparesCardSaid :=
  Claim7.holds_tied_plain_at .later [] [.data] true (true, "c10bcdde4472256f8a108541366267ea30e3b994a846b203e432cfd35eadd98c") false
    over (fun _ h => by cases h) (by kernel_rfl) (fun _ h => by cases h) valueCompares_row_tie rfl ⟨rfl, rfl⟩ (by kernel_rfl) rfl
    (fun f fn hf hfn => by
      obtain rfl : f = 6 := Option.some.inj ((show Tryd.prog.funcNamed "braid/braidlaw05.ValueCompares" = some 6 by kernel_rfl).symm.trans hf) |>.symm
      obtain rfl : fn = Tryd.f6 := (Option.some.inj (Tryd.func6.symm.trans hfn)).symm
      exact ⟨by kernel_rfl, fun j t ht => by
        rw [Tryd.params6] at ht
        have hm : t ∈ [24, 24, 40] := by simpa using Array.mem_of_getElem? ht
        have hall : ([24, 24, 40].all fun u => !Tryd.prog.wantsStandIn u) = true := by kernel_rfl
        exact (show Tryd.prog.wantsStandIn t = false by simpa using List.all_eq_true.1 hall t hm)⟩)
    (by kernel_rfl)

end Go.Proofs.YtklfgpdfongaeaaDoor.lawValueCompares
