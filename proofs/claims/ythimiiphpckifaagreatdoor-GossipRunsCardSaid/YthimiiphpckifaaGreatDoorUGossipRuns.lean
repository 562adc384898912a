import Derived.Test.YthimiiphpckifaaGreatDoorUe
namespace Go.Proofs.YthimiiphpckifaaGreatDoor.lawGossipRuns
open Go Go.RowKit Go.ChangeShapes Go.WideShapes Go.ChangeAt
set_option linter.unusedVariables false
set_option linter.unusedSimpArgs false
theorem own : ownKnob Tryz.prog.godebug = none := by kernel_rfl
theorem laidOut : laidOutB Tryz.prog = true := by kernel_rfl
theorem door_met (os : Os) (args : Array Value) : laidMetH Tryz.prog [("braid/digest.constants", Rows.laid_braid_digest_constants)] ((World.doorLaid Tryz.prog 400 os).forCall (fun _ _ => 0) ⟨#[], args, []⟩).memory :=
 laidMetH_of_parts3 (fuel := 8) (laidMet_of_run' 8 (by kernel_rfl) (by kernel_rfl)) (by kernel_rfl) (by kernel_rfl)
set_option maxRecDepth 100000 in
theorem lifted (os : Os) (started : os.Started) (H : Type) (enc : TypeId × Value → H) :
  ReturnsInHanded {} Tryz.checked os 3 .any (fun w args => (Rows.gossipRunsSpec.pre enc Tryz.prog Tryz.f3 [] false w args ∧ laidMetH Tryz.prog [("braid/digest.constants", Rows.laid_braid_digest_constants)] w) ∧ sizedMet enc Tryz.prog Tryz.f3 (OpenSpec.ofChange Rows.gossipRunsSpec) false w args)
   (Rows.gossipRunsSpec.post enc Tryz.prog Tryz.f3 false true false false) := by
 refine returnsInHanded_of_change_and (C := Tryz.checked) (X := fun w _ => laidMetH Tryz.prog [("braid/digest.constants", Rows.laid_braid_digest_constants)] w) (fun _ _ _ hh h => h.of_heap hh) own started (by kernel_rfl) Tryz.func3
  (ChangeSpec.witness_shaped (enc := enc) (C := Tryz.checked) (os := os) (X := fun w _ => laidMetH Tryz.prog [("braid/digest.constants", Rows.laid_braid_digest_constants)] w) false (World.doorLaid Tryz.prog 400 os) #[.slice none 0 0, .agg #[.int .i64 (0), .int .i64 (0)], .slice none 0 0, .int .i64 (0)] 8 rfl (World.shaped_of_RefB (by kernel_rfl) (by kernel_rfl)) (by kernel_rfl) (by kernel_rfl) (by kernel_rfl) (door_met os _)) ?_
 intro W base args ds gs before hval0 hW _ _ hL _
 have hval : ∀ (j : Nat) t v, Tryz.f3.params[j]? = some t → args[j]? = some v → Value.okWide Tryz.prog W .any base t v := hval0
 have hW' := hW
 obtain ⟨p, q, hA0, hV, rfl, hfz, hnd⟩ := hW
 have hA : DataW.TrodAll enc Tryz.prog W 0 (fun _ => true) true Tryz.f3.params.toList args.toList ds p := hA0
 rw [Tryz.params3] at hA hval
 obtain ⟨v0, vs0, d0, ds0, p0, q0, hargs, rfl, rfl, h0, r0⟩ := trodAll_cons hA
 obtain ⟨v1, vs1, d1, ds1, p1, q1, rfl, rfl, rfl, h1, r1⟩ := trodAll_cons r0
 obtain ⟨v2, vs2, d2, ds2, p2, q2, rfl, rfl, rfl, h2, r2⟩ := trodAll_cons r1
 obtain ⟨v3, vs3, d3, ds3, p3, q3, rfl, rfl, rfl, h3, r3⟩ := trodAll_cons r2
 obtain ⟨rfl, rfl, rfl⟩ := trodAll_nil r3
 obtain rfl : args = #[v0, v1, v2, v3] := by cases args; simp_all
 obtain ⟨rfl, rfl⟩ := trodVars_none hV
 have lt0 : ∀ x ∈ p0, x.block < W.heap.size := by obtain ⟨m, hm⟩ := h0; exact DataW.trod_lt m _ _ _ hm
 obtain ⟨y0, e0, w0⟩ := Opn.arg (R := (z02 z00)) (wf := (fun l : List z01 => (∀ x ∈ l, z42 x) ∧ l.length ≤ 9223372036854775807)) (Opn.slice Tryz.underlying22 (by kernel_rfl) rfl (Opn.struct (wf' := z42) Tryz.underlying49 (by kernel_rfl) (zf2.cons (Opn.slice Tryz.underlying46 (by kernel_rfl) rfl (Opn.arr Tryz.underlying94 (by kernel_rfl) (by kernel_rfl) (Opn.u8 Tryz.underlying5))) rfl (by kernel_rfl) (zf2.cons (Opn.slice Tryz.underlying47 (by kernel_rfl) rfl (Opn.struct (wf' := zj7) Tryz.underlying86 (by kernel_rfl) (zf2.cons (Opn.u32 Tryz.underlying78) rfl (by kernel_rfl) (zf2.cons (Opn.slice Tryz.underlying46 (by kernel_rfl) rfl (Opn.arr Tryz.underlying94 (by kernel_rfl) (by kernel_rfl) (Opn.u8 Tryz.underlying5))) rfl (by kernel_rfl) (zf2.cons (Opn.u64 Tryz.underlying56) rfl (by kernel_rfl) (zf2.cons (Opn.struct (wf' := zlb) Tryz.underlying82 (by kernel_rfl) (zf2.cons (Opn.u8 Tryz.underlying5) rfl (by kernel_rfl) (zf2.cons (Opn.str Tryz.underlying9) rfl (by kernel_rfl) (zf2.cons (Opn.struct (wf' := zi7) Tryz.underlying80 (by kernel_rfl) (zf2.cons (Opn.u8 Tryz.underlying5) rfl (by kernel_rfl) (zf2.cons (Opn.i64 Tryz.underlying2) rfl (by kernel_rfl) (zf2.cons (Opn.u64 Tryz.underlying56) rfl (by kernel_rfl) (zf2.cons (Opn.str Tryz.underlying9) rfl (by kernel_rfl) zf2.nil)))) (fun p => ⟨p.1, p.2.1, p.2.2.1, p.2.2.2.1⟩) (fun _ => rfl) (fun _ h => h)) rfl (by kernel_rfl) zf2.nil))) (fun p => ⟨p.1, p.2.1, p.2.2.1⟩) (fun _ => rfl) (fun _ h => h)) rfl (by kernel_rfl) (zf2.cons (Opn.struct (wf' := zlk) Tryz.underlying84 (by kernel_rfl) (zf2.cons (Opn.u32 Tryz.underlying78) rfl (by kernel_rfl) (zf2.cons (Opn.u32 Tryz.underlying78) rfl (by kernel_rfl) zf2.nil)) (fun p => ⟨p.1, p.2.1⟩) (fun _ => rfl) (fun _ h => h)) rfl (by kernel_rfl) zf2.nil))))) (fun p => ⟨p.1, p.2.1, p.2.2.1, p.2.2.2.1, p.2.2.2.2.1⟩) (fun _ => rfl) (fun _ h => h))) rfl (by kernel_rfl) zf2.nil)) (fun p => ⟨p.1, p.2.1⟩) (fun _ => rfl) (fun _ h => h))) h0 (.inl ⟨rfl, ok4 Tryz.underlying22 (hval 0 22 v0 rfl rfl)⟩)
 have lt1 : ∀ x ∈ p1, x.block < W.heap.size := by obtain ⟨m, hm⟩ := h1; exact DataW.trod_lt m _ _ _ hm
 obtain ⟨y1, e1, w1⟩ := Opn.arg (R := z12) (wf := z9y) (Opn.struct (wf' := z9y) Tryz.underlying24 (by kernel_rfl) (zf2.cons (Opn.i64 Tryz.underlying3) rfl (by kernel_rfl) (zf2.cons (Opn.i64 Tryz.underlying3) rfl (by kernel_rfl) zf2.nil)) (fun p => ⟨p.1, p.2.1⟩) (fun _ => rfl) (fun _ h => h)) h1 (.inr ⟨rfl, ok5 Tryz.underlying24 (hval 1 24 v1 rfl rfl)⟩)
 have lt2 : ∀ x ∈ p2, x.block < W.heap.size := by obtain ⟨m, hm⟩ := h2; exact DataW.trod_lt m _ _ _ hm
 obtain ⟨y2, e2, w2⟩ := Opn.arg (R := (z02 z12)) (wf := (fun l : List z0b => (∀ x ∈ l, z9y x) ∧ l.length ≤ 9223372036854775807)) (Opn.slice Tryz.underlying25 (by kernel_rfl) rfl (Opn.struct (wf' := z9y) Tryz.underlying24 (by kernel_rfl) (zf2.cons (Opn.i64 Tryz.underlying3) rfl (by kernel_rfl) (zf2.cons (Opn.i64 Tryz.underlying3) rfl (by kernel_rfl) zf2.nil)) (fun p => ⟨p.1, p.2.1⟩) (fun _ => rfl) (fun _ h => h))) h2 (.inl ⟨rfl, ok4 Tryz.underlying25 (hval 2 25 v2 rfl rfl)⟩)
 have lt3 : ∀ x ∈ p3, x.block < W.heap.size := by obtain ⟨m, hm⟩ := h3; exact DataW.trod_lt m _ _ _ hm
 obtain ⟨y3, e3, w3⟩ := Opn.arg (R := z0a) (wf := inI) (Opn.i64 Tryz.underlying3) h3 (.inl ⟨rfl, ok1 Tryz.underlying3 (hval 3 3 v3 rfl rfl)⟩)
 clear hA0 hval0
 have hG := zuy (x := z6m) (f := fun x : UInt32 => (x.toNat : Int)) hL rfl (by kernel_rfl : Tryz.prog.globalNamed "braid/digest.constants" = some 1) (by kernel_rfl : (Tryz.prog.globals[1]?).map (·.type) = some 229) Tryz.underlying229 Tryz.underlying78 (by kernel_rfl) (by kernel_rfl) (by decide) (by kernel_rfl)
 have only : ∀ r v c, lr [(1001, some (Value.bool true, z3y.glob 1 ((z34 64 z0n)) z6m))] r = some (v, c) → v = .bool true ∧ c = z3y.glob 1 ((z34 64 z0n)) z6m := fun r v c h => by
  rw [z14] at h
  split at h
  ·
   cases h; exact ⟨rfl, rfl⟩
  ·
   simp [lr, lk] at h
 refine (z1u.lawG (W := W) (zc6 _ _ _ _) (zsp _ _ _ _ w0 w1 w2 w3) (vs := [v0, v1, v2, v3]) ⟨e0, ⟨e1, ⟨e2, ⟨e3, trivial⟩⟩⟩⟩ (fun r v c h => by rw [(only r v c h).1]; rfl) (fun r v c h => by rw [(only r v c h).1, (only r v c h).2]; exact .inl ⟨rfl, hG⟩)).mono fun e W' ⟨he, bel⟩ => ?_
 subst he
 exact ⟨_, rfl, _, _, _, [], _, [], hW', trodAll_mk1 (shut_bool Tryz.underlying4 _), (trodAll_cons_mk (Below.trod laidOut (by kernel_rfl) (of_decide_eq_true (by kernel_rfl)) h0 bel lt0) (trodAll_cons_mk (Below.trod laidOut (by kernel_rfl) (of_decide_eq_true (by kernel_rfl)) h1 bel lt1) (trodAll_cons_mk (Below.trod laidOut (by kernel_rfl) (of_decide_eq_true (by kernel_rfl)) h2 bel lt2) (trodAll_cons_mk (Below.trod laidOut (by kernel_rfl) (of_decide_eq_true (by kernel_rfl)) h3 bel lt3) trodAll_mk0)))), rfl, bel.frame _, fun h => by cases h⟩
theorem fN : Tryz.prog.funcNamed "braid/braidlaw38.GossipRuns" = some 3 := by kernel_rfl
set_option maxHeartbeats 4000000 in
theorem fC : joinedFacts Tryz.prog 3 Tryz.f3 Rows.gossipRunsSpec Rows.gossipRunsRow = true := by
 unfold joinedFacts
 repeat' with_reducible refine Bool.and_eq_true_iff.2 ⟨?_, ?_⟩
 all_goals as_aux_lemma => kernel_rfl
theorem fI : Tryz.f3.isInstance Tryz.prog Rows.gossipRunsRow.origin Rows.gossipRunsRow.targs := of_decide_eq_true (by kernel_rfl)
theorem fX : Tryz.f3.isWrapper Tryz.prog Rows.gossipRunsRow.wrapper Rows.gossipRunsRow.mainSum := by unfold Func.isWrapper; first | (rw [if_pos (by decide +kernel)]; kernel_rfl) | (rw [if_neg (by decide +kernel)]; exact ⟨rfl, rfl⟩)
theorem over : Rows.gossipRunsRow.holds Tryz.pinned (OpenSpec.ofChange Rows.gossipRunsSpec) :=
 OpenClaim.holds_of_wide 3 Tryz.f3 rfl rfl rfl rfl rfl rfl rfl ⟨rfl, rfl, rfl, rfl, rfl⟩ rfl rfl rfl rfl rfl fN Tryz.func3 fC fI fX
  (fun os started H enc _ => lifted os started H enc)
theorem fW : Rows.gossipRunsRow.wfByText (OpenSpec.ofChange Rows.gossipRunsSpec) = true := by kernel_rfl
theorem fM : Tryz.prog.mainIs = some (true, "9f8b426bd39a9c2e2b23107f995ea9f06479ac7d947e79d87c8e067a94a5e255".toList) := by kernel_rfl
theorem fG : false = Rows.gossipRunsRow.goesBy Tryz.prog := by kernel_rfl
theorem fL : false = Tryz.prog.looks [] := by kernel_rfl
theorem fS : ([22, 24, 25, 3].all fun u => !Tryz.prog.wantsStandIn u) = true := by kernel_rfl
theorem proved : Rows.GossipRunsCardSaid :=
 Claim7.holds_tied_plain_at .later [] [.data] true (true, "9f8b426bd39a9c2e2b23107f995ea9f06479ac7d947e79d87c8e067a94a5e255") false
  over (fun _ h => by cases h) fW (fun _ h => by cases h) gossipRuns_row_tie rfl ⟨rfl, rfl⟩ fM rfl
  (fun f fn hf hfn => by
   obtain rfl : f = 3 := Option.some.inj (fN.symm.trans hf) |>.symm
   obtain rfl : fn = Tryz.f3 := (Option.some.inj (Tryz.func3.symm.trans hfn)).symm
   exact ⟨fL, fun j t ht => by
    rw [Tryz.params3] at ht
    have hm : t ∈ [22, 24, 25, 3] := by simpa using Array.mem_of_getElem? ht
    exact (show Tryz.prog.wantsStandIn t = false by simpa using List.all_eq_true.1 fS t hm)⟩)
  fG
end Go.Proofs.YthimiiphpckifaaGreatDoor.lawGossipRuns
