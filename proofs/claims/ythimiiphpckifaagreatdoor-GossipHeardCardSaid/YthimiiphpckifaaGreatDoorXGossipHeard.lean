import Derived.Test.YthimiiphpckifaaGreatDoorXf
namespace Go.Proofs.YthimiiphpckifaaGreatDoor.lawGossipHeard
open Go Go.RowKit Go.ChangeShapes Go.WideShapes Go.ChangeAt
set_option linter.unusedVariables false
set_option linter.unusedSimpArgs false
theorem own : ownKnob Tryz.prog.godebug = none := by kernel_rfl
theorem laidOut : laidOutB Tryz.prog = true := by kernel_rfl
theorem door_met (os : Os) (args : Array Value) : laidMetH Tryz.prog [("braid/digest.constants", Rows.laid_braid_digest_constants)] ((World.doorLaid Tryz.prog 400 os).forCall (fun _ _ => 0) ⟨#[], args, []⟩).memory :=
 laidMetH_of_parts3 (fuel := 8) (laidMet_of_run' 8 (by kernel_rfl) (by kernel_rfl)) (by kernel_rfl) (by kernel_rfl)
set_option maxRecDepth 100000 in
theorem lifted (os : Os) (started : os.Started) (H : Type) (enc : TypeId × Value → H) :
  ReturnsInHanded {} Tryz.checked os 6 .any (fun w args => (Rows.gossipHeardSpec.pre enc Tryz.prog Tryz.f6 [] false w args ∧ laidMetH Tryz.prog [("braid/digest.constants", Rows.laid_braid_digest_constants)] w) ∧ sizedMet enc Tryz.prog Tryz.f6 (OpenSpec.ofChange Rows.gossipHeardSpec) false w args)
   (Rows.gossipHeardSpec.post enc Tryz.prog Tryz.f6 false true false false) := by
 refine returnsInHanded_of_change_and (C := Tryz.checked) (X := fun w _ => laidMetH Tryz.prog [("braid/digest.constants", Rows.laid_braid_digest_constants)] w) (fun _ _ _ hh h => h.of_heap hh) own started (by kernel_rfl) Tryz.func6
  (ChangeSpec.witness_shaped (enc := enc) (C := Tryz.checked) (os := os) (X := fun w _ => laidMetH Tryz.prog [("braid/digest.constants", Rows.laid_braid_digest_constants)] w) false (World.doorLaid Tryz.prog 400 os) #[.slice none 0 0, .slice none 0 0] 8 rfl (World.shaped_of_RefB (by kernel_rfl) (by kernel_rfl)) (by kernel_rfl) (by kernel_rfl) (by kernel_rfl) (door_met os _)) ?_
 intro W base args ds gs before hval0 hW _ _ hL _
 have hval : ∀ (j : Nat) t v, Tryz.f6.params[j]? = some t → args[j]? = some v → Value.okWide Tryz.prog W .any base t v := hval0
 have hW' := hW
 obtain ⟨p, q, hA0, hV, rfl, hfz, hnd⟩ := hW
 have hA : DataW.TrodAll enc Tryz.prog W 0 (fun _ => true) true Tryz.f6.params.toList args.toList ds p := hA0
 rw [Tryz.params6] at hA hval
 obtain ⟨v0, vs0, d0, ds0, p0, q0, hargs, rfl, rfl, h0, r0⟩ := trodAll_cons hA
 obtain ⟨v1, vs1, d1, ds1, p1, q1, rfl, rfl, rfl, h1, r1⟩ := trodAll_cons r0
 obtain ⟨rfl, rfl, rfl⟩ := trodAll_nil r1
 obtain rfl : args = #[v0, v1] := by cases args; simp_all
 obtain ⟨rfl, rfl⟩ := trodVars_none hV
 have lt0 : ∀ x ∈ p0, x.block < W.heap.size := by obtain ⟨m, hm⟩ := h0; exact DataW.trod_lt m _ _ _ hm
 obtain ⟨y0, e0, w0⟩ := Opn.arg (R := (z02 z01)) (wf := (fun l : List z00 => (∀ x ∈ l, z4u x) ∧ l.length ≤ 9223372036854775807)) (Opn.slice Tryz.underlying22 (by kernel_rfl) rfl (Opn.struct (wf' := z4u) Tryz.underlying49 (by kernel_rfl) (zi3.cons (Opn.slice Tryz.underlying46 (by kernel_rfl) rfl (Opn.arr Tryz.underlying94 (by kernel_rfl) (by kernel_rfl) (Opn.u8 Tryz.underlying5))) rfl (by kernel_rfl) (zi3.cons (Opn.slice Tryz.underlying47 (by kernel_rfl) rfl (Opn.struct (wf' := zg1) Tryz.underlying86 (by kernel_rfl) (zi3.cons (Opn.u32 Tryz.underlying78) rfl (by kernel_rfl) (zi3.cons (Opn.slice Tryz.underlying46 (by kernel_rfl) rfl (Opn.arr Tryz.underlying94 (by kernel_rfl) (by kernel_rfl) (Opn.u8 Tryz.underlying5))) rfl (by kernel_rfl) (zi3.cons (Opn.u64 Tryz.underlying56) rfl (by kernel_rfl) (zi3.cons (Opn.struct (wf' := znz) Tryz.underlying82 (by kernel_rfl) (zi3.cons (Opn.u8 Tryz.underlying5) rfl (by kernel_rfl) (zi3.cons (Opn.str Tryz.underlying9) rfl (by kernel_rfl) (zi3.cons (Opn.struct (wf' := zk9) Tryz.underlying80 (by kernel_rfl) (zi3.cons (Opn.u8 Tryz.underlying5) rfl (by kernel_rfl) (zi3.cons (Opn.i64 Tryz.underlying2) rfl (by kernel_rfl) (zi3.cons (Opn.u64 Tryz.underlying56) rfl (by kernel_rfl) (zi3.cons (Opn.str Tryz.underlying9) rfl (by kernel_rfl) zi3.nil)))) (fun p => ⟨p.1, p.2.1, p.2.2.1, p.2.2.2.1⟩) (fun _ => rfl) (fun _ h => h)) rfl (by kernel_rfl) zi3.nil))) (fun p => ⟨p.1, p.2.1, p.2.2.1⟩) (fun _ => rfl) (fun _ h => h)) rfl (by kernel_rfl) (zi3.cons (Opn.struct (wf' := zoa) Tryz.underlying84 (by kernel_rfl) (zi3.cons (Opn.u32 Tryz.underlying78) rfl (by kernel_rfl) (zi3.cons (Opn.u32 Tryz.underlying78) rfl (by kernel_rfl) zi3.nil)) (fun p => ⟨p.1, p.2.1⟩) (fun _ => rfl) (fun _ h => h)) rfl (by kernel_rfl) zi3.nil))))) (fun p => ⟨p.1, p.2.1, p.2.2.1, p.2.2.2.1, p.2.2.2.2.1⟩) (fun _ => rfl) (fun _ h => h))) rfl (by kernel_rfl) zi3.nil)) (fun p => ⟨p.1, p.2.1⟩) (fun _ => rfl) (fun _ h => h))) h0 (.inl ⟨rfl, ok4 Tryz.underlying22 (hval 0 22 v0 rfl rfl)⟩)
 have lt1 : ∀ x ∈ p1, x.block < W.heap.size := by obtain ⟨m, hm⟩ := h1; exact DataW.trod_lt m _ _ _ hm
 obtain ⟨y1, e1, w1⟩ := Opn.arg (R := (z02 z0h)) (wf := (fun l : List z0c => (∀ x ∈ l, zi0 x) ∧ l.length ≤ 9223372036854775807)) (Opn.slice Tryz.underlying25 (by kernel_rfl) rfl (Opn.struct (wf' := zi0) Tryz.underlying24 (by kernel_rfl) (zi3.cons (Opn.i64 Tryz.underlying3) rfl (by kernel_rfl) (zi3.cons (Opn.i64 Tryz.underlying3) rfl (by kernel_rfl) zi3.nil)) (fun p => ⟨p.1, p.2.1⟩) (fun _ => rfl) (fun _ h => h))) h1 (.inl ⟨rfl, ok4 Tryz.underlying25 (hval 1 25 v1 rfl rfl)⟩)
 clear hA0 hval0
 have hG := zzl (x := z54) (f := fun x : UInt32 => (x.toNat : Int)) hL rfl (by kernel_rfl : Tryz.prog.globalNamed "braid/digest.constants" = some 1) (by kernel_rfl : (Tryz.prog.globals[1]?).map (·.type) = some 229) Tryz.underlying229 Tryz.underlying78 (by kernel_rfl) (by kernel_rfl) (by decide) (by kernel_rfl)
 have only : ∀ r v c, lr [(1001, some (Value.bool true, z37.glob 1 ((z2o 64 z0r)) z54))] r = some (v, c) → v = .bool true ∧ c = z37.glob 1 ((z2o 64 z0r)) z54 := fun r v c h => by
  rw [z13] at h
  split at h
  ·
   cases h; exact ⟨rfl, rfl⟩
  ·
   simp [lr, lk] at h
 refine (z1w.lawG (W := W) (zdl _ _) (zsk _ _ w0 w1) (vs := [v0, v1]) ⟨e0, ⟨e1, trivial⟩⟩ (fun r v c h => by rw [(only r v c h).1]; rfl) (fun r v c h => by rw [(only r v c h).1, (only r v c h).2]; exact .inl ⟨rfl, hG⟩)).mono fun e W' ⟨he, bel⟩ => ?_
 subst he
 exact ⟨_, rfl, _, _, _, [], _, [], hW', trodAll_mk1 (shut_bool Tryz.underlying4 _), (trodAll_cons_mk (Below.trod laidOut (by kernel_rfl) (of_decide_eq_true (by kernel_rfl)) h0 bel lt0) (trodAll_cons_mk (Below.trod laidOut (by kernel_rfl) (of_decide_eq_true (by kernel_rfl)) h1 bel lt1) trodAll_mk0)), rfl, bel.frame _, fun h => by cases h⟩
theorem fN : Tryz.prog.funcNamed "braid/braidlaw38.GossipHeard" = some 6 := by kernel_rfl
set_option maxHeartbeats 4000000 in
theorem fC : joinedFacts Tryz.prog 6 Tryz.f6 Rows.gossipHeardSpec Rows.gossipHeardRow = true := by
 unfold joinedFacts
 repeat' with_reducible refine Bool.and_eq_true_iff.2 ⟨?_, ?_⟩
 all_goals as_aux_lemma => kernel_rfl
theorem fI : Tryz.f6.isInstance Tryz.prog Rows.gossipHeardRow.origin Rows.gossipHeardRow.targs := of_decide_eq_true (by kernel_rfl)
theorem fX : Tryz.f6.isWrapper Tryz.prog Rows.gossipHeardRow.wrapper Rows.gossipHeardRow.mainSum := by unfold Func.isWrapper; first | (rw [if_pos (by decide +kernel)]; kernel_rfl) | (rw [if_neg (by decide +kernel)]; exact ⟨rfl, rfl⟩)
theorem over : Rows.gossipHeardRow.holds Tryz.pinned (OpenSpec.ofChange Rows.gossipHeardSpec) :=
 OpenClaim.holds_of_wide 6 Tryz.f6 rfl rfl rfl rfl rfl rfl rfl ⟨rfl, rfl, rfl, rfl, rfl⟩ rfl rfl rfl rfl rfl fN Tryz.func6 fC fI fX
  (fun os started H enc _ => lifted os started H enc)
theorem fW : Rows.gossipHeardRow.wfByText (OpenSpec.ofChange Rows.gossipHeardSpec) = true := by kernel_rfl
theorem fM : Tryz.prog.mainIs = some (true, "9f8b426bd39a9c2e2b23107f995ea9f06479ac7d947e79d87c8e067a94a5e255".toList) := by kernel_rfl
theorem fG : false = Rows.gossipHeardRow.goesBy Tryz.prog := by kernel_rfl
theorem fL : false = Tryz.prog.looks [] := by kernel_rfl
theorem fS : ([22, 25].all fun u => !Tryz.prog.wantsStandIn u) = true := by kernel_rfl
theorem proved : Rows.GossipHeardCardSaid :=
 Claim7.holds_tied_plain_at .later [] [.data] true (true, "9f8b426bd39a9c2e2b23107f995ea9f06479ac7d947e79d87c8e067a94a5e255") false
  over (fun _ h => by cases h) fW (fun _ h => by cases h) gossipHeard_row_tie rfl ⟨rfl, rfl⟩ fM rfl
  (fun f fn hf hfn => by
   obtain rfl : f = 6 := Option.some.inj (fN.symm.trans hf) |>.symm
   obtain rfl : fn = Tryz.f6 := (Option.some.inj (Tryz.func6.symm.trans hfn)).symm
   exact ⟨fL, fun j t ht => by
    rw [Tryz.params6] at ht
    have hm : t ∈ [22, 25] := by simpa using Array.mem_of_getElem? ht
    exact (show Tryz.prog.wantsStandIn t = false by simpa using List.all_eq_true.1 fS t hm)⟩)
  fG
end Go.Proofs.YthimiiphpckifaaGreatDoor.lawGossipHeard
