import Derived.Test.YtefkialcgmohkaaGreatDoorZf
namespace Go.Proofs.YtefkialcgmohkaaGreatDoor.lawTradeUnion
open Go Go.RowKit Go.ChangeShapes Go.WideShapes Go.ChangeAt
set_option linter.unusedVariables false
set_option linter.unusedSimpArgs false
theorem own : ownKnob Tryz.prog.godebug = none := by kernel_rfl
theorem laidOut : laidOutB Tryz.prog = true := by kernel_rfl
theorem door_met (os : Os) (args : Array Value) : laidMetH Tryz.prog [("braid/digest.constants", Rows.laid_braid_digest_constants)] ((World.doorLaid Tryz.prog 400 os).forCall (fun _ _ => 0) ⟨#[], args, []⟩).memory :=
 laidMetH_of_parts3 (fuel := 8) (laidMet_of_run' 8 (by kernel_rfl) (by kernel_rfl)) (by kernel_rfl) (by kernel_rfl)
set_option maxRecDepth 100000 in
theorem lifted (os : Os) (started : os.Started) (H : Type) (enc : TypeId × Value → H) :
  ReturnsInHanded {} Tryz.checked os 8 .any (fun w args => (Rows.tradeUnionSpec.pre enc Tryz.prog Tryz.f8 [] false w args ∧ laidMetH Tryz.prog [("braid/digest.constants", Rows.laid_braid_digest_constants)] w) ∧ sizedMet enc Tryz.prog Tryz.f8 (OpenSpec.ofChange Rows.tradeUnionSpec) false w args)
   (Rows.tradeUnionSpec.post enc Tryz.prog Tryz.f8 false true false false) := by
 refine returnsInHanded_of_change_and (C := Tryz.checked) (X := fun w _ => laidMetH Tryz.prog [("braid/digest.constants", Rows.laid_braid_digest_constants)] w) (fun _ _ _ hh h => h.of_heap hh) own started (by kernel_rfl) Tryz.func8
  (ChangeSpec.witness_shaped (enc := enc) (C := Tryz.checked) (os := os) (X := fun w _ => laidMetH Tryz.prog [("braid/digest.constants", Rows.laid_braid_digest_constants)] w) false (World.doorLaid Tryz.prog 400 os) #[.agg #[.slice none 0 0, .slice none 0 0], .agg #[.slice none 0 0, .slice none 0 0]] 8 rfl (World.shaped_of_RefB (by kernel_rfl) (by kernel_rfl)) (by kernel_rfl) (by kernel_rfl) (by kernel_rfl) (door_met os _)) ?_
 intro W base args ds gs before hval0 hW _ _ hL _
 have hval : ∀ (j : Nat) t v, Tryz.f8.params[j]? = some t → args[j]? = some v → Value.okWide Tryz.prog W .any base t v := hval0
 have hW' := hW
 obtain ⟨p, q, hA0, hV, rfl, hfz, hnd⟩ := hW
 have hA : DataW.TrodAll enc Tryz.prog W 0 (fun _ => true) true Tryz.f8.params.toList args.toList ds p := hA0
 rw [Tryz.params8] at hA hval
 obtain ⟨v0, vs0, d0, ds0, p0, q0, hargs, rfl, rfl, h0, r0⟩ := trodAll_cons hA
 obtain ⟨v1, vs1, d1, ds1, p1, q1, rfl, rfl, rfl, h1, r1⟩ := trodAll_cons r0
 obtain ⟨rfl, rfl, rfl⟩ := trodAll_nil r1
 obtain rfl : args = #[v0, v1] := by cases args; simp_all
 obtain ⟨rfl, rfl⟩ := trodVars_none hV
 have lt0 : ∀ x ∈ p0, x.block < W.heap.size := by obtain ⟨m, hm⟩ := h0; exact DataW.trod_lt m _ _ _ hm
 obtain ⟨y0, e0, w0⟩ := Opn.arg (R := z01) (wf := z0v) (Opn.struct (wf' := z0v) Tryz.underlying25 (by kernel_rfl) (zet.cons (Opn.slice Tryz.underlying22 (by kernel_rfl) rfl (Opn.arr Tryz.underlying62 (by kernel_rfl) (by kernel_rfl) (Opn.u8 Tryz.underlying5))) rfl (by kernel_rfl) (zet.cons (Opn.slice Tryz.underlying23 (by kernel_rfl) rfl (Opn.struct (wf' := zbu) Tryz.underlying73 (by kernel_rfl) (zet.cons (Opn.u32 Tryz.underlying65) rfl (by kernel_rfl) (zet.cons (Opn.slice Tryz.underlying22 (by kernel_rfl) rfl (Opn.arr Tryz.underlying62 (by kernel_rfl) (by kernel_rfl) (Opn.u8 Tryz.underlying5))) rfl (by kernel_rfl) (zet.cons (Opn.u64 Tryz.underlying41) rfl (by kernel_rfl) (zet.cons (Opn.struct (wf' := zmo) Tryz.underlying69 (by kernel_rfl) (zet.cons (Opn.u8 Tryz.underlying5) rfl (by kernel_rfl) (zet.cons (Opn.str Tryz.underlying9) rfl (by kernel_rfl) (zet.cons (Opn.struct (wf' := zi9) Tryz.underlying67 (by kernel_rfl) (zet.cons (Opn.u8 Tryz.underlying5) rfl (by kernel_rfl) (zet.cons (Opn.i64 Tryz.underlying2) rfl (by kernel_rfl) (zet.cons (Opn.u64 Tryz.underlying41) rfl (by kernel_rfl) (zet.cons (Opn.str Tryz.underlying9) rfl (by kernel_rfl) zet.nil)))) (fun p => ⟨p.1, p.2.1, p.2.2.1, p.2.2.2.1⟩) (fun _ => rfl) (fun _ h => h)) rfl (by kernel_rfl) zet.nil))) (fun p => ⟨p.1, p.2.1, p.2.2.1⟩) (fun _ => rfl) (fun _ h => h)) rfl (by kernel_rfl) (zet.cons (Opn.struct (wf' := zmn) Tryz.underlying71 (by kernel_rfl) (zet.cons (Opn.u32 Tryz.underlying65) rfl (by kernel_rfl) (zet.cons (Opn.u32 Tryz.underlying65) rfl (by kernel_rfl) zet.nil)) (fun p => ⟨p.1, p.2.1⟩) (fun _ => rfl) (fun _ h => h)) rfl (by kernel_rfl) zet.nil))))) (fun p => ⟨p.1, p.2.1, p.2.2.1, p.2.2.2.1, p.2.2.2.2.1⟩) (fun _ => rfl) (fun _ h => h))) rfl (by kernel_rfl) zet.nil)) (fun p => ⟨p.1, p.2.1⟩) (fun _ => rfl) (fun _ h => h)) h0 (.inr ⟨rfl, ok5 Tryz.underlying25 (hval 0 25 v0 rfl rfl)⟩)
 have lt1 : ∀ x ∈ p1, x.block < W.heap.size := by obtain ⟨m, hm⟩ := h1; exact DataW.trod_lt m _ _ _ hm
 obtain ⟨y1, e1, w1⟩ := Opn.arg (R := z01) (wf := z0v) (Opn.struct (wf' := z0v) Tryz.underlying25 (by kernel_rfl) (zet.cons (Opn.slice Tryz.underlying22 (by kernel_rfl) rfl (Opn.arr Tryz.underlying62 (by kernel_rfl) (by kernel_rfl) (Opn.u8 Tryz.underlying5))) rfl (by kernel_rfl) (zet.cons (Opn.slice Tryz.underlying23 (by kernel_rfl) rfl (Opn.struct (wf' := zbu) Tryz.underlying73 (by kernel_rfl) (zet.cons (Opn.u32 Tryz.underlying65) rfl (by kernel_rfl) (zet.cons (Opn.slice Tryz.underlying22 (by kernel_rfl) rfl (Opn.arr Tryz.underlying62 (by kernel_rfl) (by kernel_rfl) (Opn.u8 Tryz.underlying5))) rfl (by kernel_rfl) (zet.cons (Opn.u64 Tryz.underlying41) rfl (by kernel_rfl) (zet.cons (Opn.struct (wf' := zmo) Tryz.underlying69 (by kernel_rfl) (zet.cons (Opn.u8 Tryz.underlying5) rfl (by kernel_rfl) (zet.cons (Opn.str Tryz.underlying9) rfl (by kernel_rfl) (zet.cons (Opn.struct (wf' := zi9) Tryz.underlying67 (by kernel_rfl) (zet.cons (Opn.u8 Tryz.underlying5) rfl (by kernel_rfl) (zet.cons (Opn.i64 Tryz.underlying2) rfl (by kernel_rfl) (zet.cons (Opn.u64 Tryz.underlying41) rfl (by kernel_rfl) (zet.cons (Opn.str Tryz.underlying9) rfl (by kernel_rfl) zet.nil)))) (fun p => ⟨p.1, p.2.1, p.2.2.1, p.2.2.2.1⟩) (fun _ => rfl) (fun _ h => h)) rfl (by kernel_rfl) zet.nil))) (fun p => ⟨p.1, p.2.1, p.2.2.1⟩) (fun _ => rfl) (fun _ h => h)) rfl (by kernel_rfl) (zet.cons (Opn.struct (wf' := zmn) Tryz.underlying71 (by kernel_rfl) (zet.cons (Opn.u32 Tryz.underlying65) rfl (by kernel_rfl) (zet.cons (Opn.u32 Tryz.underlying65) rfl (by kernel_rfl) zet.nil)) (fun p => ⟨p.1, p.2.1⟩) (fun _ => rfl) (fun _ h => h)) rfl (by kernel_rfl) zet.nil))))) (fun p => ⟨p.1, p.2.1, p.2.2.1, p.2.2.2.1, p.2.2.2.2.1⟩) (fun _ => rfl) (fun _ h => h))) rfl (by kernel_rfl) zet.nil)) (fun p => ⟨p.1, p.2.1⟩) (fun _ => rfl) (fun _ h => h)) h1 (.inr ⟨rfl, ok5 Tryz.underlying25 (hval 1 25 v1 rfl rfl)⟩)
 clear hA0 hval0
 have hG := z113 (x := z65) (f := fun x : UInt32 => (x.toNat : Int)) hL rfl (by kernel_rfl : Tryz.prog.globalNamed "braid/digest.constants" = some 1) (by kernel_rfl : (Tryz.prog.globals[1]?).map (·.type) = some 249) Tryz.underlying249 Tryz.underlying65 (by kernel_rfl) (by kernel_rfl) (by decide) (by kernel_rfl)
 have only : ∀ r v c, lr [(1001, some (Value.bool true, z5l.glob 1 ((z3j 64 z0p)) z65))] r = some (v, c) → v = .bool true ∧ c = z5l.glob 1 ((z3j 64 z0p)) z65 := fun r v c h => by
  rw [z1l] at h
  split at h
  ·
   cases h; exact ⟨rfl, rfl⟩
  ·
   simp [lr, lk] at h
 refine (z1u.lawG (W := W) (zgv _ _) (zvg _ _ w0 w1) (vs := [v0, v1]) ⟨e0, ⟨e1, trivial⟩⟩ (fun r v c h => by rw [(only r v c h).1]; rfl) (fun r v c h => by rw [(only r v c h).1, (only r v c h).2]; exact .inl ⟨rfl, hG⟩)).mono fun e W' ⟨he, bel⟩ => ?_
 subst he
 exact ⟨_, rfl, _, _, _, [], _, [], hW', trodAll_mk1 (shut_bool Tryz.underlying4 _), (trodAll_cons_mk (Below.trod laidOut (by kernel_rfl) (of_decide_eq_true (by kernel_rfl)) h0 bel lt0) (trodAll_cons_mk (Below.trod laidOut (by kernel_rfl) (of_decide_eq_true (by kernel_rfl)) h1 bel lt1) trodAll_mk0)), rfl, bel.frame _, fun h => by cases h⟩
theorem over : Rows.tradeUnionRow.holds Tryz.pinned (OpenSpec.ofChange Rows.tradeUnionSpec) :=
 OpenClaim.holds_of_wide 8 Tryz.f8 rfl rfl rfl rfl rfl rfl rfl ⟨rfl, rfl, rfl, rfl, rfl⟩ rfl rfl rfl rfl rfl (by kernel_rfl) Tryz.func8 (by kernel_rfl)
  (of_decide_eq_true (by kernel_rfl)) (by unfold Func.isWrapper; first | (rw [if_pos (by decide +kernel)]; kernel_rfl) | (rw [if_neg (by decide +kernel)]; exact ⟨rfl, rfl⟩))
  (fun os started H enc _ => lifted os started H enc)
theorem proved : Rows.TradeUnionCardSaid :=
 Claim7.holds_tied_plain_at .later [] [.data] true (true, "0b2782c8e365848f93fe9550c1eafe7c2f8a892fdc6e9872f281f679c2fe5472") false
  over (fun _ h => by cases h) (by kernel_rfl) (fun _ h => by cases h) tradeUnion_row_tie rfl ⟨rfl, rfl⟩ (by kernel_rfl) rfl
  (fun f fn hf hfn => by
   obtain rfl : f = 8 := Option.some.inj ((show Tryz.prog.funcNamed "braid/braidlaw27.TradeUnion" = some 8 by kernel_rfl).symm.trans hf) |>.symm
   obtain rfl : fn = Tryz.f8 := (Option.some.inj (Tryz.func8.symm.trans hfn)).symm
   exact ⟨by kernel_rfl, fun j t ht => by
    rw [Tryz.params8] at ht
    have hm : t ∈ [25, 25] := by simpa using Array.mem_of_getElem? ht
    have hall : ([25, 25].all fun u => !Tryz.prog.wantsStandIn u) = true := by kernel_rfl
    exact (show Tryz.prog.wantsStandIn t = false by simpa using List.all_eq_true.1 hall t hm)⟩)
  (by kernel_rfl)
end Go.Proofs.YtefkialcgmohkaaGreatDoor.lawTradeUnion
