import Derived.Test.YtcneilabmjkdlaaGreatDoorUe
namespace Go.Proofs.YtcneilabmjkdlaaGreatDoor.lawTradeNames
open Go Go.RowKit Go.ChangeShapes Go.WideShapes Go.ChangeAt
set_option linter.unusedVariables false
set_option linter.unusedSimpArgs false
theorem own : ownKnob Tryz.prog.godebug = none := by kernel_rfl
theorem laidOut : laidOutB Tryz.prog = true := by kernel_rfl
theorem door_met (os : Os) (args : Array Value) : laidMetH Tryz.prog [("braid/digest.constants", Rows.laid_braid_digest_constants)] ((World.doorLaid Tryz.prog 400 os).forCall (fun _ _ => 0) ⟨#[], args, []⟩).memory :=
 laidMetH_of_parts3 (fuel := 8) (laidMet_of_run' 8 (by kernel_rfl) (by kernel_rfl)) (by kernel_rfl) (by kernel_rfl)
set_option maxRecDepth 100000 in
theorem lifted (os : Os) (started : os.Started) (H : Type) (enc : TypeId × Value → H) :
  ReturnsInHanded {} Tryz.checked os 3 .any (fun w args => (Rows.tradeNamesSpec.pre enc Tryz.prog Tryz.f3 [] false w args ∧ laidMetH Tryz.prog [("braid/digest.constants", Rows.laid_braid_digest_constants)] w) ∧ sizedMet enc Tryz.prog Tryz.f3 (OpenSpec.ofChange Rows.tradeNamesSpec) false w args)
   (Rows.tradeNamesSpec.post enc Tryz.prog Tryz.f3 false true false false) := by
 refine returnsInHanded_of_change_and (C := Tryz.checked) (X := fun w _ => laidMetH Tryz.prog [("braid/digest.constants", Rows.laid_braid_digest_constants)] w) (fun _ _ _ hh h => h.of_heap hh) own started (by kernel_rfl) Tryz.func3
  (ChangeSpec.witness_shaped (enc := enc) (C := Tryz.checked) (os := os) (X := fun w _ => laidMetH Tryz.prog [("braid/digest.constants", Rows.laid_braid_digest_constants)] w) false (World.doorLaid Tryz.prog 400 os) #[] 8 rfl (World.shaped_of_RefB (by kernel_rfl) (by kernel_rfl)) (by kernel_rfl) (by kernel_rfl) (by kernel_rfl) (door_met os _)) ?_
 intro W base args ds gs before hval0 hW _ _ hL _
 have hval : ∀ (j : Nat) t v, Tryz.f3.params[j]? = some t → args[j]? = some v → Value.okWide Tryz.prog W .any base t v := hval0
 have hW' := hW
 obtain ⟨p, q, hA0, hV, rfl, hfz, hnd⟩ := hW
 have hA : DataW.TrodAll enc Tryz.prog W 0 (fun _ => true) true Tryz.f3.params.toList args.toList ds p := hA0
 rw [Tryz.params3] at hA hval
 obtain ⟨rfl, rfl, rfl⟩ := trodAll_none hA
 obtain ⟨rfl, rfl⟩ := trodVars_none hV
 clear hA0 hval0
 have hG := zzj (x := z52) (f := fun x : UInt32 => (x.toNat : Int)) hL rfl (by kernel_rfl : Tryz.prog.globalNamed "braid/digest.constants" = some 1) (by kernel_rfl : (Tryz.prog.globals[1]?).map (·.type) = some 217) Tryz.underlying217 Tryz.underlying48 (by kernel_rfl) (by kernel_rfl) (by decide) (by kernel_rfl)
 have only : ∀ r v c, lr [(1001, some (Value.bool true, z51.glob 1 ((z3b 64 z0o)) z52))] r = some (v, c) → v = .bool true ∧ c = z51.glob 1 ((z3b 64 z0o)) z52 := fun r v c h => by
  rw [z1f] at h
  split at h
  ·
   cases h; exact ⟨rfl, rfl⟩
  ·
   simp [lr, lk] at h
 refine (z1o.lawG (W := W) (zfa) (zsw) (vs := []) trivial (fun r v c h => by rw [(only r v c h).1]; rfl) (fun r v c h => by rw [(only r v c h).1, (only r v c h).2]; exact .inl ⟨rfl, hG⟩)).mono fun e W' ⟨he, bel⟩ => ?_
 subst he
 exact ⟨_, rfl, _, _, _, [], _, [], hW', trodAll_mk1 (shut_bool Tryz.underlying4 _), rfl, rfl, bel.frame _, fun h => by cases h⟩
theorem fN : Tryz.prog.funcNamed "braid/braidlaw27.TradeNames" = some 3 := by kernel_rfl
set_option maxHeartbeats 4000000 in
theorem fC : joinedFacts Tryz.prog 3 Tryz.f3 Rows.tradeNamesSpec Rows.tradeNamesRow = true := by
 unfold joinedFacts
 repeat' with_reducible refine Bool.and_eq_true_iff.2 ⟨?_, ?_⟩
 all_goals as_aux_lemma => kernel_rfl
theorem fI : Tryz.f3.isInstance Tryz.prog Rows.tradeNamesRow.origin Rows.tradeNamesRow.targs := of_decide_eq_true (by kernel_rfl)
theorem fX : Tryz.f3.isWrapper Tryz.prog Rows.tradeNamesRow.wrapper Rows.tradeNamesRow.mainSum := by unfold Func.isWrapper; first | (rw [if_pos (by decide +kernel)]; kernel_rfl) | (rw [if_neg (by decide +kernel)]; exact ⟨rfl, rfl⟩)
theorem over : Rows.tradeNamesRow.holds Tryz.pinned (OpenSpec.ofChange Rows.tradeNamesSpec) :=
 OpenClaim.holds_of_wide 3 Tryz.f3 rfl rfl rfl rfl rfl rfl rfl ⟨rfl, rfl, rfl, rfl, rfl⟩ rfl rfl rfl rfl rfl fN Tryz.func3 fC fI fX
  (fun os started H enc _ => lifted os started H enc)
theorem fW : Rows.tradeNamesRow.wfByText (OpenSpec.ofChange Rows.tradeNamesSpec) = true := by kernel_rfl
theorem fM : Tryz.prog.mainIs = some (true, "7f964fe8e354cde54b810703145f6b0bb151c35ea51580ef19413f068dff31e1".toList) := by kernel_rfl
theorem fG : false = Rows.tradeNamesRow.goesBy Tryz.prog := by kernel_rfl
theorem fL : false = Tryz.prog.looks [] := by kernel_rfl
theorem fS : (([] : List TypeId).all fun u => !Tryz.prog.wantsStandIn u) = true := by kernel_rfl
theorem proved : Rows.TradeNamesCardSaid :=
 Claim7.holds_tied_plain_at .later [] [.data] true (true, "7f964fe8e354cde54b810703145f6b0bb151c35ea51580ef19413f068dff31e1") false
  over (fun _ h => by cases h) fW (fun _ h => by cases h) tradeNames_row_tie rfl ⟨rfl, rfl⟩ fM rfl
  (fun f fn hf hfn => by
   obtain rfl : f = 3 := Option.some.inj (fN.symm.trans hf) |>.symm
   obtain rfl : fn = Tryz.f3 := (Option.some.inj (Tryz.func3.symm.trans hfn)).symm
   exact ⟨fL, fun j t ht => by
    rw [Tryz.params3] at ht
    simp at ht⟩)
  fG
end Go.Proofs.YtcneilabmjkdlaaGreatDoor.lawTradeNames
