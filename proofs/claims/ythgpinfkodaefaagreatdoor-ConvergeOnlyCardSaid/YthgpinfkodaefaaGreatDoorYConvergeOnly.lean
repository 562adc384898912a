import Derived.Test.YthgpinfkodaefaaGreatDoorYe
namespace Go.Proofs.YthgpinfkodaefaaGreatDoor.lawConvergeOnly
open Go Go.RowKit Go.ChangeShapes Go.WideShapes Go.ChangeAt
set_option linter.unusedVariables false
set_option linter.unusedSimpArgs false
theorem own : ownKnob Tryz.prog.godebug = none := by kernel_rfl
theorem laidOut : laidOutB Tryz.prog = true := by kernel_rfl
theorem door_met (os : Os) (args : Array Value) : laidMetH Tryz.prog [("braid/digest.constants", Rows.laid_braid_digest_constants)] ((World.doorLaid Tryz.prog 400 os).forCall (fun _ _ => 0) ⟨#[], args, []⟩).memory :=
 laidMetH_of_parts3 (fuel := 8) (laidMet_of_run' 8 (by kernel_rfl) (by kernel_rfl)) (by kernel_rfl) (by kernel_rfl)
set_option maxRecDepth 100000 in
theorem lifted (os : Os) (started : os.Started) (H : Type) (enc : TypeId × Value → H) :
  ReturnsInHanded {} Tryz.checked os 5 .any (fun w args => (Rows.convergeOnlySpec.pre enc Tryz.prog Tryz.f5 [] false w args ∧ laidMetH Tryz.prog [("braid/digest.constants", Rows.laid_braid_digest_constants)] w) ∧ sizedMet enc Tryz.prog Tryz.f5 (OpenSpec.ofChange Rows.convergeOnlySpec) false w args)
   (Rows.convergeOnlySpec.post enc Tryz.prog Tryz.f5 false true false false) := by
 refine returnsInHanded_of_change_and (C := Tryz.checked) (X := fun w _ => laidMetH Tryz.prog [("braid/digest.constants", Rows.laid_braid_digest_constants)] w) (fun _ _ _ hh h => h.of_heap hh) own started (by kernel_rfl) Tryz.func5
  (ChangeSpec.witness_shaped (enc := enc) (C := Tryz.checked) (os := os) (X := fun w _ => laidMetH Tryz.prog [("braid/digest.constants", Rows.laid_braid_digest_constants)] w) false (World.doorLaid Tryz.prog 400 os) #[.agg #[.slice none 0 0, .slice none 0 0], .agg #[.int .u8 (0), .string ByteArray.empty, .int .u8 (0), .int .i64 (0), .int .u64 (0), .string ByteArray.empty], .int .u64 (0), .int .u32 (0)] 8 rfl (World.shaped_of_RefB (by kernel_rfl) (by kernel_rfl)) (by kernel_rfl) (by kernel_rfl) (by kernel_rfl) (door_met os _)) ?_
 intro W base args ds gs before hval0 hW _ _ hL _
 have hval : ∀ (j : Nat) t v, Tryz.f5.params[j]? = some t → args[j]? = some v → Value.okWide Tryz.prog W .any base t v := hval0
 have hW' := hW
 obtain ⟨p, q, hA0, hV, rfl, hfz, hnd⟩ := hW
 have hA : DataW.TrodAll enc Tryz.prog W 0 (fun _ => true) true Tryz.f5.params.toList args.toList ds p := hA0
 rw [Tryz.params5] at hA hval
 obtain ⟨v0, vs0, d0, ds0, p0, q0, hargs, rfl, rfl, h0, r0⟩ := trodAll_cons hA
 obtain ⟨v1, vs1, d1, ds1, p1, q1, rfl, rfl, rfl, h1, r1⟩ := trodAll_cons r0
 obtain ⟨v2, vs2, d2, ds2, p2, q2, rfl, rfl, rfl, h2, r2⟩ := trodAll_cons r1
 obtain ⟨v3, vs3, d3, ds3, p3, q3, rfl, rfl, rfl, h3, r3⟩ := trodAll_cons r2
 obtain ⟨rfl, rfl, rfl⟩ := trodAll_nil r3
 obtain rfl : args = #[v0, v1, v2, v3] := by cases args; simp_all
 obtain ⟨rfl, rfl⟩ := trodVars_none hV
 have lt0 : ∀ x ∈ p0, x.block < W.heap.size := by obtain ⟨m, hm⟩ := h0; exact DataW.trod_lt m _ _ _ hm
 obtain ⟨y0, e0, w0⟩ := Opn.arg (R := z01) (wf := z6q) (Opn.struct (wf' := z6q) Tryz.underlying27 (by kernel_rfl) (zea.cons (Opn.slice Tryz.underlying24 (by kernel_rfl) rfl (Opn.arr Tryz.underlying78 (by kernel_rfl) (by kernel_rfl) (Opn.u8 Tryz.underlying5))) rfl (by kernel_rfl) (zea.cons (Opn.slice Tryz.underlying25 (by kernel_rfl) rfl (Opn.struct (wf' := z9u) Tryz.underlying72 (by kernel_rfl) (zea.cons (Opn.u32 Tryz.underlying65) rfl (by kernel_rfl) (zea.cons (Opn.slice Tryz.underlying24 (by kernel_rfl) rfl (Opn.arr Tryz.underlying78 (by kernel_rfl) (by kernel_rfl) (Opn.u8 Tryz.underlying5))) rfl (by kernel_rfl) (zea.cons (Opn.u64 Tryz.underlying52) rfl (by kernel_rfl) (zea.cons (Opn.struct (wf' := zd2) Tryz.underlying64 (by kernel_rfl) (zea.cons (Opn.u8 Tryz.underlying5) rfl (by kernel_rfl) (zea.cons (Opn.str Tryz.underlying9) rfl (by kernel_rfl) (zea.cons (Opn.struct (wf' := zej) Tryz.underlying54 (by kernel_rfl) (zea.cons (Opn.u8 Tryz.underlying5) rfl (by kernel_rfl) (zea.cons (Opn.i64 Tryz.underlying2) rfl (by kernel_rfl) (zea.cons (Opn.u64 Tryz.underlying52) rfl (by kernel_rfl) (zea.cons (Opn.str Tryz.underlying9) rfl (by kernel_rfl) zea.nil)))) (fun p => ⟨p.1, p.2.1, p.2.2.1, p.2.2.2.1⟩) (fun _ => rfl) (fun _ h => h)) rfl (by kernel_rfl) zea.nil))) (fun p => ⟨p.1, p.2.1, p.2.2.1⟩) (fun _ => rfl) (fun _ h => h)) rfl (by kernel_rfl) (zea.cons (Opn.struct (wf' := zlj) Tryz.underlying70 (by kernel_rfl) (zea.cons (Opn.u32 Tryz.underlying65) rfl (by kernel_rfl) (zea.cons (Opn.u32 Tryz.underlying65) rfl (by kernel_rfl) zea.nil)) (fun p => ⟨p.1, p.2.1⟩) (fun _ => rfl) (fun _ h => h)) rfl (by kernel_rfl) zea.nil))))) (fun p => ⟨p.1, p.2.1, p.2.2.1, p.2.2.2.1, p.2.2.2.2.1⟩) (fun _ => rfl) (fun _ h => h))) rfl (by kernel_rfl) zea.nil)) (fun p => ⟨p.1, p.2.1⟩) (fun _ => rfl) (fun _ h => h)) h0 (.inr ⟨rfl, ok5 Tryz.underlying27 (hval 0 27 v0 rfl rfl)⟩)
 have lt1 : ∀ x ∈ p1, x.block < W.heap.size := by obtain ⟨m, hm⟩ := h1; exact DataW.trod_lt m _ _ _ hm
 obtain ⟨y1, e1, w1⟩ := Opn.arg (R := z0g) (wf := zd2) (Opn.struct (wf' := zd2) Tryz.underlying64 (by kernel_rfl) (zea.cons (Opn.u8 Tryz.underlying5) rfl (by kernel_rfl) (zea.cons (Opn.str Tryz.underlying9) rfl (by kernel_rfl) (zea.cons (Opn.struct (wf' := zej) Tryz.underlying54 (by kernel_rfl) (zea.cons (Opn.u8 Tryz.underlying5) rfl (by kernel_rfl) (zea.cons (Opn.i64 Tryz.underlying2) rfl (by kernel_rfl) (zea.cons (Opn.u64 Tryz.underlying52) rfl (by kernel_rfl) (zea.cons (Opn.str Tryz.underlying9) rfl (by kernel_rfl) zea.nil)))) (fun p => ⟨p.1, p.2.1, p.2.2.1, p.2.2.2.1⟩) (fun _ => rfl) (fun _ h => h)) rfl (by kernel_rfl) zea.nil))) (fun p => ⟨p.1, p.2.1, p.2.2.1⟩) (fun _ => rfl) (fun _ h => h)) h1 (.inr ⟨rfl, ok5 Tryz.underlying64 (hval 1 64 v1 rfl rfl)⟩)
 have lt2 : ∀ x ∈ p2, x.block < W.heap.size := by obtain ⟨m, hm⟩ := h2; exact DataW.trod_lt m _ _ _ hm
 obtain ⟨y2, e2, w2⟩ := Opn.arg (R := z2n) (wf := (fun _ => True)) (Opn.u64 Tryz.underlying52) h2 (.inl ⟨rfl, ok1 Tryz.underlying52 (hval 2 52 v2 rfl rfl)⟩)
 have lt3 : ∀ x ∈ p3, x.block < W.heap.size := by obtain ⟨m, hm⟩ := h3; exact DataW.trod_lt m _ _ _ hm
 obtain ⟨y3, e3, w3⟩ := Opn.arg (R := z0k) (wf := (fun _ => True)) (Opn.u32 Tryz.underlying65) h3 (.inl ⟨rfl, ok1 Tryz.underlying65 (hval 3 65 v3 rfl rfl)⟩)
 clear hA0 hval0
 have hG := zvi (x := z56) (f := fun x : UInt32 => (x.toNat : Int)) hL rfl (by kernel_rfl : Tryz.prog.globalNamed "braid/digest.constants" = some 1) (by kernel_rfl : (Tryz.prog.globals[1]?).map (·.type) = some 264) Tryz.underlying264 Tryz.underlying65 (by kernel_rfl) (by kernel_rfl) (by decide) (by kernel_rfl)
 have only : ∀ r v c, lr [(1001, some (Value.bool true, z3y.glob 1 ((z2z 64 z0k)) z56))] r = some (v, c) → v = .bool true ∧ c = z3y.glob 1 ((z2z 64 z0k)) z56 := fun r v c h => by
  rw [z18] at h
  split at h
  ·
   cases h; exact ⟨rfl, rfl⟩
  ·
   simp [lr, lk] at h
 refine (z1v.lawG (W := W) (zbx _ _ _ _) (zwf _ _ _ _ w0 w1 w2 w3) (vs := [v0, v1, v2, v3]) ⟨e0, ⟨e1, ⟨e2, ⟨e3, trivial⟩⟩⟩⟩ (fun r v c h => by rw [(only r v c h).1]; rfl) (fun r v c h => by rw [(only r v c h).1, (only r v c h).2]; exact .inl ⟨rfl, hG⟩)).mono fun e W' ⟨he, bel⟩ => ?_
 subst he
 exact ⟨_, rfl, _, _, _, [], _, [], hW', trodAll_mk1 (shut_bool Tryz.underlying4 _), (trodAll_cons_mk (Below.trod laidOut (by kernel_rfl) (of_decide_eq_true (by kernel_rfl)) h0 bel lt0) (trodAll_cons_mk (Below.trod laidOut (by kernel_rfl) (of_decide_eq_true (by kernel_rfl)) h1 bel lt1) (trodAll_cons_mk (Below.trod laidOut (by kernel_rfl) (of_decide_eq_true (by kernel_rfl)) h2 bel lt2) (trodAll_cons_mk (Below.trod laidOut (by kernel_rfl) (of_decide_eq_true (by kernel_rfl)) h3 bel lt3) trodAll_mk0)))), rfl, bel.frame _, fun h => by cases h⟩
theorem fN : Tryz.prog.funcNamed "braid/braidlaw36.ConvergeOnly" = some 5 := by kernel_rfl
set_option maxHeartbeats 4000000 in
theorem fC : joinedFacts Tryz.prog 5 Tryz.f5 Rows.convergeOnlySpec Rows.convergeOnlyRow = true := by
 unfold joinedFacts
 repeat' with_reducible refine Bool.and_eq_true_iff.2 ⟨?_, ?_⟩
 all_goals as_aux_lemma => kernel_rfl
theorem fI : Tryz.f5.isInstance Tryz.prog Rows.convergeOnlyRow.origin Rows.convergeOnlyRow.targs := of_decide_eq_true (by kernel_rfl)
theorem fX : Tryz.f5.isWrapper Tryz.prog Rows.convergeOnlyRow.wrapper Rows.convergeOnlyRow.mainSum := by unfold Func.isWrapper; first | (rw [if_pos (by decide +kernel)]; kernel_rfl) | (rw [if_neg (by decide +kernel)]; exact ⟨rfl, rfl⟩)
theorem over : Rows.convergeOnlyRow.holds Tryz.pinned (OpenSpec.ofChange Rows.convergeOnlySpec) :=
 OpenClaim.holds_of_wide 5 Tryz.f5 rfl rfl rfl rfl rfl rfl rfl ⟨rfl, rfl, rfl, rfl, rfl⟩ rfl rfl rfl rfl rfl fN Tryz.func5 fC fI fX
  (fun os started H enc _ => lifted os started H enc)
theorem fW : Rows.convergeOnlyRow.wfByText (OpenSpec.ofChange Rows.convergeOnlySpec) = true := by kernel_rfl
theorem fM : Tryz.prog.mainIs = some (true, "3fbe50e4c941b63721e5be22be883733bfc1f884c14c16cfc9dba7bed05387b6".toList) := by kernel_rfl
theorem fG : false = Rows.convergeOnlyRow.goesBy Tryz.prog := by kernel_rfl
theorem fL : false = Tryz.prog.looks [] := by kernel_rfl
theorem fS : ([27, 64, 52, 65].all fun u => !Tryz.prog.wantsStandIn u) = true := by kernel_rfl
theorem proved : Rows.ConvergeOnlyCardSaid :=
 Claim7.holds_tied_plain_at .later [] [.data] true (true, "3fbe50e4c941b63721e5be22be883733bfc1f884c14c16cfc9dba7bed05387b6") false
  over (fun _ h => by cases h) fW (fun _ h => by cases h) convergeOnly_row_tie rfl ⟨rfl, rfl⟩ fM rfl
  (fun f fn hf hfn => by
   obtain rfl : f = 5 := Option.some.inj (fN.symm.trans hf) |>.symm
   obtain rfl : fn = Tryz.f5 := (Option.some.inj (Tryz.func5.symm.trans hfn)).symm
   exact ⟨fL, fun j t ht => by
    rw [Tryz.params5] at ht
    have hm : t ∈ [27, 64, 52, 65] := by simpa using Array.mem_of_getElem? ht
    exact (show Tryz.prog.wantsStandIn t = false by simpa using List.all_eq_true.1 fS t hm)⟩)
  fG
end Go.Proofs.YthgpinfkodaefaaGreatDoor.lawConvergeOnly
