import Derived.Test.YtojceajkeefnpaaGreatDoorRf
namespace Go.Proofs.YtojceajkeefnpaaGreatDoor.lawPackReads
open Go Go.RowKit Go.ChangeShapes Go.WideShapes Go.ChangeAt
set_option linter.unusedVariables false
set_option linter.unusedSimpArgs false
theorem own : ownKnob Tryz.prog.godebug = none := by kernel_rfl
theorem laidOut : laidOutB Tryz.prog = true := by kernel_rfl
theorem door_met (os : Os) (args : Array Value) : laidMetH Tryz.prog [("braid/digest.constants", Rows.laid_braid_digest_constants)] ((World.doorLaid Tryz.prog 400 os).forCall (fun _ _ => 0) ⟨#[], args, []⟩).memory :=
 laidMetH_of_parts3 (fuel := 8) (laidMet_of_run' 8 (by kernel_rfl) (by kernel_rfl)) (by kernel_rfl) (by kernel_rfl)
set_option maxRecDepth 100000 in
theorem lifted (os : Os) (started : os.Started) (H : Type) (enc : TypeId × Value → H) :
  ReturnsInHanded {} Tryz.checked os 6 .any (fun w args => (Rows.packReadsSpec.pre enc Tryz.prog Tryz.f6 [] false w args ∧ laidMetH Tryz.prog [("braid/digest.constants", Rows.laid_braid_digest_constants)] w) ∧ sizedMet enc Tryz.prog Tryz.f6 (OpenSpec.ofChange Rows.packReadsSpec) false w args)
   (Rows.packReadsSpec.post enc Tryz.prog Tryz.f6 false true false false) := by
 refine returnsInHanded_of_change_and (C := Tryz.checked) (X := fun w _ => laidMetH Tryz.prog [("braid/digest.constants", Rows.laid_braid_digest_constants)] w) (fun _ _ _ hh h => h.of_heap hh) own started (by kernel_rfl) Tryz.func6
  (ChangeSpec.witness_shaped (enc := enc) (C := Tryz.checked) (os := os) (X := fun w _ => laidMetH Tryz.prog [("braid/digest.constants", Rows.laid_braid_digest_constants)] w) false (World.doorLaid Tryz.prog 400 os) #[.slice none 0 0, .agg #[.slice none 0 0, .slice none 0 0], .slice none 0 0] 8 rfl (World.shaped_of_RefB (by kernel_rfl) (by kernel_rfl)) (by kernel_rfl) (by kernel_rfl) (by kernel_rfl) (door_met os _)) ?_
 intro W base args ds gs before hval0 hW _ _ hL _
 have hval : ∀ (j : Nat) t v, Tryz.f6.params[j]? = some t → args[j]? = some v → Value.okWide Tryz.prog W .any base t v := hval0
 have hW' := hW
 obtain ⟨p, q, hA0, hV, rfl, hfz, hnd⟩ := hW
 have hA : DataW.TrodAll enc Tryz.prog W 0 (fun _ => true) true Tryz.f6.params.toList args.toList ds p := hA0
 rw [Tryz.params6] at hA hval
 obtain ⟨v0, vs0, d0, ds0, p0, q0, hargs, rfl, rfl, h0, r0⟩ := trodAll_cons hA
 obtain ⟨v1, vs1, d1, ds1, p1, q1, rfl, rfl, rfl, h1, r1⟩ := trodAll_cons r0
 obtain ⟨v2, vs2, d2, ds2, p2, q2, rfl, rfl, rfl, h2, r2⟩ := trodAll_cons r1
 obtain ⟨rfl, rfl, rfl⟩ := trodAll_nil r2
 obtain rfl : args = #[v0, v1, v2] := by cases args; simp_all
 obtain ⟨rfl, rfl⟩ := trodVars_none hV
 have lt0 : ∀ x ∈ p0, x.block < W.heap.size := by obtain ⟨m, hm⟩ := h0; exact DataW.trod_lt m _ _ _ hm
 obtain ⟨y0, e0, w0⟩ := Opn.arg (R := (z04 u8R)) (wf := (fun l : List UInt8 => (∀ x ∈ l, (fun _ => True) x) ∧ l.length ≤ 9223372036854775807)) (Opn.slice Tryz.underlying52 (by kernel_rfl) rfl (Opn.u8 Tryz.underlying5)) h0 (.inl ⟨rfl, ok4 Tryz.underlying52 (hval 0 52 v0 rfl rfl)⟩)
 have lt1 : ∀ x ∈ p1, x.block < W.heap.size := by obtain ⟨m, hm⟩ := h1; exact DataW.trod_lt m _ _ _ hm
 obtain ⟨y1, e1, w1⟩ := Opn.arg (R := z11) (wf := z85) (Opn.struct (wf' := z85) Tryz.underlying66 (by kernel_rfl) (zl8.cons (Opn.slice Tryz.underlying29 (by kernel_rfl) rfl (Opn.arr Tryz.underlying45 (by kernel_rfl) (by kernel_rfl) (Opn.u8 Tryz.underlying5))) rfl (by kernel_rfl) (zl8.cons (Opn.slice Tryz.underlying22 (by kernel_rfl) rfl (Opn.struct (wf' := zr5) Tryz.underlying43 (by kernel_rfl) (zl8.cons (Opn.u32 Tryz.underlying34) rfl (by kernel_rfl) (zl8.cons (Opn.slice Tryz.underlying29 (by kernel_rfl) rfl (Opn.arr Tryz.underlying45 (by kernel_rfl) (by kernel_rfl) (Opn.u8 Tryz.underlying5))) rfl (by kernel_rfl) (zl8.cons (Opn.u64 Tryz.underlying35) rfl (by kernel_rfl) (zl8.cons (Opn.struct (wf' := zpa) Tryz.underlying39 (by kernel_rfl) (zl8.cons (Opn.u8 Tryz.underlying5) rfl (by kernel_rfl) (zl8.cons (Opn.str Tryz.underlying9) rfl (by kernel_rfl) (zl8.cons (Opn.struct (wf' := zlk) Tryz.underlying37 (by kernel_rfl) (zl8.cons (Opn.u8 Tryz.underlying5) rfl (by kernel_rfl) (zl8.cons (Opn.i64 Tryz.underlying2) rfl (by kernel_rfl) (zl8.cons (Opn.u64 Tryz.underlying35) rfl (by kernel_rfl) (zl8.cons (Opn.str Tryz.underlying9) rfl (by kernel_rfl) zl8.nil)))) (fun p => ⟨p.1, p.2.1, p.2.2.1, p.2.2.2.1⟩) (fun _ => rfl) (fun _ h => h)) rfl (by kernel_rfl) zl8.nil))) (fun p => ⟨p.1, p.2.1, p.2.2.1⟩) (fun _ => rfl) (fun _ h => h)) rfl (by kernel_rfl) (zl8.cons (Opn.struct (wf' := zp3) Tryz.underlying41 (by kernel_rfl) (zl8.cons (Opn.u32 Tryz.underlying34) rfl (by kernel_rfl) (zl8.cons (Opn.u32 Tryz.underlying34) rfl (by kernel_rfl) zl8.nil)) (fun p => ⟨p.1, p.2.1⟩) (fun _ => rfl) (fun _ h => h)) rfl (by kernel_rfl) zl8.nil))))) (fun p => ⟨p.1, p.2.1, p.2.2.1, p.2.2.2.1, p.2.2.2.2.1⟩) (fun _ => rfl) (fun _ h => h))) rfl (by kernel_rfl) zl8.nil)) (fun p => ⟨p.1, p.2.1⟩) (fun _ => rfl) (fun _ h => h)) h1 (.inr ⟨rfl, ok5 Tryz.underlying66 (hval 1 66 v1 rfl rfl)⟩)
 have lt2 : ∀ x ∈ p2, x.block < W.heap.size := by obtain ⟨m, hm⟩ := h2; exact DataW.trod_lt m _ _ _ hm
 obtain ⟨y2, e2, w2⟩ := Opn.arg (R := (z04 (z43 32 u8R))) (wf := (fun l : List (Vector UInt8 32) => (∀ x ∈ l, (fun v : Vector UInt8 32 => ∀ x ∈ v.toList, (fun _ => True) x) x) ∧ l.length ≤ 9223372036854775807)) (Opn.slice Tryz.underlying29 (by kernel_rfl) rfl (Opn.arr Tryz.underlying45 (by kernel_rfl) (by kernel_rfl) (Opn.u8 Tryz.underlying5))) h2 (.inl ⟨rfl, ok4 Tryz.underlying29 (hval 2 29 v2 rfl rfl)⟩)
 clear hA0 hval0
 have hG := z106 (x := zah) (f := fun x : UInt32 => (x.toNat : Int)) hL rfl (by kernel_rfl : Tryz.prog.globalNamed "braid/digest.constants" = some 1) (by kernel_rfl : (Tryz.prog.globals[1]?).map (·.type) = some 279) Tryz.underlying279 Tryz.underlying34 (by kernel_rfl) (by kernel_rfl) (by decide) (by kernel_rfl)
 have only : ∀ r v c, lr [(1001, some (Value.bool true, z4j.glob 1 ((z43 64 z0x)) zah))] r = some (v, c) → v = .bool true ∧ c = z4j.glob 1 ((z43 64 z0x)) zah := fun r v c h => by
  rw [z1z] at h
  split at h
  ·
   cases h; exact ⟨rfl, rfl⟩
  ·
   simp [lr, lk] at h
 refine (z2b.lawG (W := W) (zfv _ _ _) (zoh _ _ _ w0 w1 w2) (vs := [v0, v1, v2]) ⟨e0, ⟨e1, ⟨e2, trivial⟩⟩⟩ (fun r v c h => by rw [(only r v c h).1]; rfl) (fun r v c h => by rw [(only r v c h).1, (only r v c h).2]; exact .inl ⟨rfl, hG⟩)).mono fun e W' ⟨he, bel⟩ => ?_
 subst he
 exact ⟨_, rfl, _, _, _, [], _, [], hW', trodAll_mk1 (shut_bool Tryz.underlying4 _), (trodAll_cons_mk (Below.trod laidOut (by kernel_rfl) (of_decide_eq_true (by kernel_rfl)) h0 bel lt0) (trodAll_cons_mk (Below.trod laidOut (by kernel_rfl) (of_decide_eq_true (by kernel_rfl)) h1 bel lt1) (trodAll_cons_mk (Below.trod laidOut (by kernel_rfl) (of_decide_eq_true (by kernel_rfl)) h2 bel lt2) trodAll_mk0))), rfl, bel.frame _, fun h => by cases h⟩
theorem fN : Tryz.prog.funcNamed "braid/braidlaw41.PackReads" = some 6 := by kernel_rfl
set_option maxHeartbeats 4000000 in
theorem fC : joinedFacts Tryz.prog 6 Tryz.f6 Rows.packReadsSpec Rows.packReadsRow = true := by
 unfold joinedFacts
 repeat' with_reducible refine Bool.and_eq_true_iff.2 ⟨?_, ?_⟩
 all_goals as_aux_lemma => kernel_rfl
theorem fI : Tryz.f6.isInstance Tryz.prog Rows.packReadsRow.origin Rows.packReadsRow.targs := of_decide_eq_true (by kernel_rfl)
theorem fX : Tryz.f6.isWrapper Tryz.prog Rows.packReadsRow.wrapper Rows.packReadsRow.mainSum := by unfold Func.isWrapper; first | (rw [if_pos (by decide +kernel)]; kernel_rfl) | (rw [if_neg (by decide +kernel)]; exact ⟨rfl, rfl⟩)
theorem over : Rows.packReadsRow.holds Tryz.pinned (OpenSpec.ofChange Rows.packReadsSpec) :=
 OpenClaim.holds_of_wide 6 Tryz.f6 rfl rfl rfl rfl rfl rfl rfl ⟨rfl, rfl, rfl, rfl, rfl⟩ rfl rfl rfl rfl rfl fN Tryz.func6 fC fI fX
  (fun os started H enc _ => lifted os started H enc)
theorem fW : Rows.packReadsRow.wfByText (OpenSpec.ofChange Rows.packReadsSpec) = true := by kernel_rfl
theorem fM : Tryz.prog.mainIs = some (true, "b1cd018050495a0a64ce133054ff9e9d197022928246c982989830497e8a1604".toList) := by kernel_rfl
theorem fG : false = Rows.packReadsRow.goesBy Tryz.prog := by kernel_rfl
theorem fL : false = Tryz.prog.looks [] := by kernel_rfl
theorem fS : ([52, 66, 29].all fun u => !Tryz.prog.wantsStandIn u) = true := by kernel_rfl
theorem proved : Rows.PackReadsCardSaid :=
 Claim7.holds_tied_plain_at .later [] [.data] true (true, "b1cd018050495a0a64ce133054ff9e9d197022928246c982989830497e8a1604") false
  over (fun _ h => by cases h) fW (fun _ h => by cases h) packReads_row_tie rfl ⟨rfl, rfl⟩ fM rfl
  (fun f fn hf hfn => by
   obtain rfl : f = 6 := Option.some.inj (fN.symm.trans hf) |>.symm
   obtain rfl : fn = Tryz.f6 := (Option.some.inj (Tryz.func6.symm.trans hfn)).symm
   exact ⟨fL, fun j t ht => by
    rw [Tryz.params6] at ht
    have hm : t ∈ [52, 66, 29] := by simpa using Array.mem_of_getElem? ht
    exact (show Tryz.prog.wantsStandIn t = false by simpa using List.all_eq_true.1 fS t hm)⟩)
  fG
end Go.Proofs.YtojceajkeefnpaaGreatDoor.lawPackReads
