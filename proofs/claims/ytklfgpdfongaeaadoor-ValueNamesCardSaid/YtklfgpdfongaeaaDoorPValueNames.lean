/- ValueNames: for every input the law returns true, and each argument reads afterwards as it read before, where the package variables that the row lists start as the program's text lays them. No condition beyond the card's own. -/
import Derived.Test.YtklfgpdfongaeaaDoorRows
import Derived.Test.YtklfgpdfongaeaaDoorTie
import Derived.Test.YtklfgpdfongaeaaDoorCards
import Derived.Test.YtklfgpdfongaeaaDoorKS
import Derived.Test.YtklfgpdfongaeaaDoorQNms
import Derived.LaidMore
import Derived.OpenShut
import Derived.SevenTiedAt
namespace Go.Proofs.YtklfgpdfongaeaaDoor.lawValueNames
open Go Go.RowKit Go.ChangeShapes Go.WideShapes Go.ChangeAt
set_option linter.unusedVariables false
set_option linter.unusedSimpArgs false

theorem own : ownKnob Tryd.prog.godebug = none := by kernel_rfl
theorem laidOut : laidOutB Tryd.prog = true := by kernel_rfl
theorem door_met (os : Os) (args : Array Value) : laidMetH Tryd.prog [("math/bits.deBruijn64tab", Rows.laid_math_bits_deBruijn64tab)] ((World.doorLaid Tryd.prog 400 os).forCall (fun _ _ => 0) ⟨#[], args, []⟩).memory :=
  laidMetH_of_parts3 (fuel := 8) (laidMet_of_run' 8 (by kernel_rfl) (by kernel_rfl)) (by kernel_rfl) (by kernel_rfl)

set_option maxRecDepth 100000 in
theorem lifted (os : Os) (started : os.Started) (H : Type) (enc : TypeId × Value → H) :
    ReturnsInHanded {} Tryd.checked os 5 .any (fun w args => (Rows.valueNamesSpec.pre enc Tryd.prog Tryd.f5 [] false w args ∧ laidMetH Tryd.prog [("math/bits.deBruijn64tab", Rows.laid_math_bits_deBruijn64tab)] w) ∧ sizedMet enc Tryd.prog Tryd.f5 (OpenSpec.ofChange Rows.valueNamesSpec) false w args)
      (Rows.valueNamesSpec.post enc Tryd.prog Tryd.f5 false true false false) := by
  refine returnsInHanded_of_change_and (C := Tryd.checked) (X := fun w _ => laidMetH Tryd.prog [("math/bits.deBruijn64tab", Rows.laid_math_bits_deBruijn64tab)] w) (fun _ _ _ hh h => h.of_heap hh) own started (by kernel_rfl) Tryd.func5
    (ChangeSpec.witness_shaped (enc := enc) (C := Tryd.checked) (os := os) (X := fun w _ => laidMetH Tryd.prog [("math/bits.deBruijn64tab", Rows.laid_math_bits_deBruijn64tab)] w) false (World.doorLaid Tryd.prog 400 os) #[] 8 rfl (World.shaped_of_RefB (by kernel_rfl) (by kernel_rfl)) (by kernel_rfl) (by kernel_rfl) (by kernel_rfl) (door_met os _)) ?_
  intro W base args ds gs before hval0 hW _ _ hL _
  have hval : ∀ (j : Nat) t v, Tryd.f5.params[j]? = some t → args[j]? = some v → Value.okWide Tryd.prog W .any base t v := hval0
  have hW' := hW
  obtain ⟨p, q, hA0, hV, rfl, hfz, hnd⟩ := hW
  have hA : DataW.TrodAll enc Tryd.prog W 0 (fun _ => true) true Tryd.f5.params.toList args.toList ds p := hA0
  rw [Tryd.params5] at hA hval
  obtain ⟨rfl, rfl, rfl⟩ := trodAll_none hA
  obtain ⟨rfl, rfl⟩ := trodVars_none hV
  clear hA0 hval0
  have hG := glob_laid (x := gtab1) (f := fun x : UInt8 => (x.toNat : Int)) hL rfl (by kernel_rfl : Tryd.prog.globalNamed "math/bits.deBruijn64tab" = some 1) (by kernel_rfl : (Tryd.prog.globals[1]?).map (·.type) = some 98) Tryd.underlying98 Tryd.underlying5 (by kernel_rfl) (by kernel_rfl) (by decide) (by kernel_rfl)
  have only : ∀ r v c, lr [(1001, some (Value.bool true, Cont.glob 1 ((arrR 64 u8R)) gtab1))] r = some (v, c) → v = .bool true ∧ c = Cont.glob 1 ((arrR 64 u8R)) gtab1 := fun r v c h => by
    rw [lr_cons] at h
    split at h
    · cases h; exact ⟨rfl, rfl⟩
    · simp [lr, lk] at h
  refine (Spec.lawG (W := W) (braidlaw05_ValueNames_ok) (names_law) (vs := []) trivial (fun r v c h => by rw [(only r v c h).1]; rfl) (fun r v c h => by rw [(only r v c h).1, (only r v c h).2]; exact .inl ⟨rfl, hG⟩)).mono fun e W' ⟨he, bel⟩ => ?_
  subst he
  exact ⟨_, rfl, _, _, _, [], _, [], hW', trodAll_mk1 (shut_bool Tryd.underlying4 _), rfl, rfl, bel.frame _, fun h => by cases h⟩

theorem over : Rows.valueNamesRow.holds Tryd.pinned (OpenSpec.ofChange Rows.valueNamesSpec) :=
  OpenClaim.holds_of_wide 5 Tryd.f5 rfl rfl rfl rfl rfl rfl rfl ⟨rfl, rfl, rfl, rfl, rfl⟩ rfl rfl rfl rfl rfl (by kernel_rfl) Tryd.func5 (by kernel_rfl)
    (of_decide_eq_true (by kernel_rfl)) (by unfold Func.isWrapper; first | (rw [if_pos (by decide +kernel)]; kernel_rfl) | (rw [if_neg (by decide +kernel)]; exact ⟨rfl, rfl⟩))
    (fun os started H enc _ => lifted os started H enc)

theorem proved : Rows.ValueNamesCardSaid :=
  Claim7.holds_tied_plain_at .later [] [.data] true (true, "c10bcdde4472256f8a108541366267ea30e3b994a846b203e432cfd35eadd98c") false
    over (fun _ h => by cases h) (by kernel_rfl) (fun _ h => by cases h) valueNames_row_tie rfl ⟨rfl, rfl⟩ (by kernel_rfl) rfl
    (fun f fn hf hfn => by
      obtain rfl : f = 5 := Option.some.inj ((show Tryd.prog.funcNamed "braid/braidlaw05.ValueNames" = some 5 by kernel_rfl).symm.trans hf) |>.symm
      obtain rfl : fn = Tryd.f5 := (Option.some.inj (Tryd.func5.symm.trans hfn)).symm
      exact ⟨by kernel_rfl, fun j t ht => by
        rw [Tryd.params5] at ht
        simp at ht⟩)
    (by kernel_rfl)

end Go.Proofs.YtklfgpdfongaeaaDoor.lawValueNames
