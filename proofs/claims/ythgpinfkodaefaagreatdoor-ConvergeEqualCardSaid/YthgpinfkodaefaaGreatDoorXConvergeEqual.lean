import Derived.Test.YthgpinfkodaefaaGreatDoorXf
namespace Go.Proofs.YthgpinfkodaefaaGreatDoor.lawConvergeEqual
open Go Go.RowKit Go.ChangeShapes Go.WideShapes Go.ChangeAt
set_option linter.unusedVariables false
set_option linter.unusedSimpArgs false
theorem own : ownKnob Tryz.prog.godebug = none := by kernel_rfl
theorem laidOut : laidOutB Tryz.prog = true := by kernel_rfl
theorem door_met (os : Os) (args : Array Value) : laidMetH Tryz.prog [("braid/digest.constants", Rows.laid_braid_digest_constants)] ((World.doorLaid Tryz.prog 400 os).forCall (fun _ _ => 0) ⟨#[], args, []⟩).memory :=
 laidMetH_of_parts3 (fuel := 8) (laidMet_of_run' 8 (by kernel_rfl) (by kernel_rfl)) (by kernel_rfl) (by kernel_rfl)
set_option maxRecDepth 100000 in
theorem lifted (os : Os) (started : os.Started) (H : Type) (enc : TypeId × Value → H) :
  ReturnsInHanded {} Tryz.checked os 8 .any (fun w args => (Rows.convergeEqualSpec.pre enc Tryz.prog Tryz.f8 [] false w args ∧ laidMetH Tryz.prog [("braid/digest.constants", Rows.laid_braid_digest_constants)] w) ∧ sizedMet enc Tryz.prog Tryz.f8 (OpenSpec.ofChange Rows.convergeEqualSpec) false w args)
   (Rows.convergeEqualSpec.post enc Tryz.prog Tryz.f8 false true false false) := by
 refine returnsInHanded_of_change_and (C := Tryz.checked) (X := fun w _ => laidMetH Tryz.prog [("braid/digest.constants", Rows.laid_braid_digest_constants)] w) (fun _ _ _ hh h => h.of_heap hh) own started (by kernel_rfl) Tryz.func8
  (ChangeSpec.witness_shaped (enc := enc) (C := Tryz.checked) (os := os) (X := fun w _ => laidMetH Tryz.prog [("braid/digest.constants", Rows.laid_braid_digest_constants)] w) false (World.doorLaid Tryz.prog 400 os) #[.agg #[.slice none 0 0, .slice none 0 0], .slice none 0 0, .slice none 0 0, .string ByteArray.empty] 8 rfl (World.shaped_of_RefB (by kernel_rfl) (by kernel_rfl)) (by kernel_rfl) (by kernel_rfl) (by kernel_rfl) (door_met os _)) ?_
 intro W base args ds gs before hval0 hW _ _ hL _
 have hval : ∀ (j : Nat) t v, Tryz.f8.params[j]? = some t → args[j]? = some v → Value.okWide Tryz.prog W .any base t v := hval0
 have hW' := hW
 obtain ⟨p, q, hA0, hV, rfl, hfz, hnd⟩ := hW
 have hA : DataW.TrodAll enc Tryz.prog W 0 (fun _ => true) true Tryz.f8.params.toList args.toList ds p := hA0
 rw [Tryz.params8] at hA hval
 obtain ⟨v0, vs0, d0, ds0, p0, q0, hargs, rfl, rfl, h0, r0⟩ := trodAll_cons hA
 obtain ⟨v1, vs1, d1, ds1, p1, q1, rfl, rfl, rfl, h1, r1⟩ := trodAll_cons r0
 obtain ⟨v2, vs2, d2, ds2, p2, q2, rfl, rfl, rfl, h2, r2⟩ := trodAll_cons r1
 obtain ⟨v3, vs3, d3, ds3, p3, q3, rfl, rfl, rfl, h3, r3⟩ := trodAll_cons r2
 obtain ⟨rfl, rfl, rfl⟩ := trodAll_nil r3
 obtain rfl : args = #[v0, v1, v2, v3] := by cases args; simp_all
 obtain ⟨rfl, rfl⟩ := trodVars_none hV
 have lt0 : ∀ x ∈ p0, x.block < W.heap.size := by obtain ⟨m, hm⟩ := h0; exact DataW.trod_lt m _ _ _ hm
 obtain ⟨y0, e0, w0⟩ := Opn.arg (R := z01) (wf := z5q) (Opn.struct (wf' := z5q) Tryz.underlying27 (by kernel_rfl) (zkm.cons (Opn.slice Tryz.underlying24 (by kernel_rfl) rfl (Opn.arr Tryz.underlying78 (by kernel_rfl) (by kernel_rfl) (Opn.u8 Tryz.underlying5))) rfl (by kernel_rfl) (zkm.cons (Opn.slice Tryz.underlying25 (by kernel_rfl) rfl (Opn.struct (wf' := zdg) Tryz.underlying72 (by kernel_rfl) (zkm.cons (Opn.u32 Tryz.underlying65) rfl (by kernel_rfl) (zkm.cons (Opn.slice Tryz.underlying24 (by kernel_rfl) rfl (Opn.arr Tryz.underlying78 (by kernel_rfl) (by kernel_rfl) (Opn.u8 Tryz.underlying5))) rfl (by kernel_rfl) (zkm.cons (Opn.u64 Tryz.underlying52) rfl (by kernel_rfl) (zkm.cons (Opn.struct (wf' := zp3) Tryz.underlying64 (by kernel_rfl) (zkm.cons (Opn.u8 Tryz.underlying5) rfl (by kernel_rfl) (zkm.cons (Opn.str Tryz.underlying9) rfl (by kernel_rfl) (zkm.cons (Opn.struct (wf' := zl2) Tryz.underlying54 (by kernel_rfl) (zkm.cons (Opn.u8 Tryz.underlying5) rfl (by kernel_rfl) (zkm.cons (Opn.i64 Tryz.underlying2) rfl (by kernel_rfl) (zkm.cons (Opn.u64 Tryz.underlying52) rfl (by kernel_rfl) (zkm.cons (Opn.str Tryz.underlying9) rfl (by kernel_rfl) zkm.nil)))) (fun p => ⟨p.1, p.2.1, p.2.2.1, p.2.2.2.1⟩) (fun _ => rfl) (fun _ h => h)) rfl (by kernel_rfl) zkm.nil))) (fun p => ⟨p.1, p.2.1, p.2.2.1⟩) (fun _ => rfl) (fun _ h => h)) rfl (by kernel_rfl) (zkm.cons (Opn.struct (wf' := zog) Tryz.underlying70 (by kernel_rfl) (zkm.cons (Opn.u32 Tryz.underlying65) rfl (by kernel_rfl) (zkm.cons (Opn.u32 Tryz.underlying65) rfl (by kernel_rfl) zkm.nil)) (fun p => ⟨p.1, p.2.1⟩) (fun _ => rfl) (fun _ h => h)) rfl (by kernel_rfl) zkm.nil))))) (fun p => ⟨p.1, p.2.1, p.2.2.1, p.2.2.2.1, p.2.2.2.2.1⟩) (fun _ => rfl) (fun _ h => h))) rfl (by kernel_rfl) zkm.nil)) (fun p => ⟨p.1, p.2.1⟩) (fun _ => rfl) (fun _ h => h)) h0 (.inr ⟨rfl, ok5 Tryz.underlying27 (hval 0 27 v0 rfl rfl)⟩)
 have lt1 : ∀ x ∈ p1, x.block < W.heap.size := by obtain ⟨m, hm⟩ := h1; exact DataW.trod_lt m _ _ _ hm
 obtain ⟨y1, e1, w1⟩ := Opn.arg (R := (z02 (z3f 32 u8R))) (wf := (fun l : List (Vector UInt8 32) => (∀ x ∈ l, (fun v : Vector UInt8 32 => ∀ x ∈ v.toList, (fun _ => True) x) x) ∧ l.length ≤ 9223372036854775807)) (Opn.slice Tryz.underlying24 (by kernel_rfl) rfl (Opn.arr Tryz.underlying78 (by kernel_rfl) (by kernel_rfl) (Opn.u8 Tryz.underlying5))) h1 (.inl ⟨rfl, ok4 Tryz.underlying24 (hval 1 24 v1 rfl rfl)⟩)
 have lt2 : ∀ x ∈ p2, x.block < W.heap.size := by obtain ⟨m, hm⟩ := h2; exact DataW.trod_lt m _ _ _ hm
 obtain ⟨y2, e2, w2⟩ := Opn.arg (R := (z02 (z3f 32 u8R))) (wf := (fun l : List (Vector UInt8 32) => (∀ x ∈ l, (fun v : Vector UInt8 32 => ∀ x ∈ v.toList, (fun _ => True) x) x) ∧ l.length ≤ 9223372036854775807)) (Opn.slice Tryz.underlying24 (by kernel_rfl) rfl (Opn.arr Tryz.underlying78 (by kernel_rfl) (by kernel_rfl) (Opn.u8 Tryz.underlying5))) h2 (.inl ⟨rfl, ok4 Tryz.underlying24 (hval 2 24 v2 rfl rfl)⟩)
 have lt3 : ∀ x ∈ p3, x.block < W.heap.size := by obtain ⟨m, hm⟩ := h3; exact DataW.trod_lt m _ _ _ hm
 obtain ⟨y3, e3, w3⟩ := Opn.arg (R := z5n) (wf := (fun s : List UInt8 => s.length ≤ 9223372036854775807)) (Opn.str Tryz.underlying9) h3 (.inl ⟨rfl, ok3 Tryz.underlying9 (hval 3 9 v3 rfl rfl)⟩)
 clear hA0 hval0
 have hG := zzi (x := z5j) (f := fun x : UInt32 => (x.toNat : Int)) hL rfl (by kernel_rfl : Tryz.prog.globalNamed "braid/digest.constants" = some 1) (by kernel_rfl : (Tryz.prog.globals[1]?).map (·.type) = some 264) Tryz.underlying264 Tryz.underlying65 (by kernel_rfl) (by kernel_rfl) (by decide) (by kernel_rfl)
 have only : ∀ r v c, lr [(1001, some (Value.bool true, z49.glob 1 ((z3f 64 z0q)) z5j))] r = some (v, c) → v = .bool true ∧ c = z49.glob 1 ((z3f 64 z0q)) z5j := fun r v c h => by
  rw [z1b] at h
  split at h
  ·
   cases h; exact ⟨rfl, rfl⟩
  ·
   simp [lr, lk] at h
 refine (z1u.lawG (W := W) (zdl _ _ _ _) (zwh _ _ _ _ w0 w1 w2 w3) (vs := [v0, v1, v2, v3]) ⟨e0, ⟨e1, ⟨e2, ⟨e3, trivial⟩⟩⟩⟩ (fun r v c h => by rw [(only r v c h).1]; rfl) (fun r v c h => by rw [(only r v c h).1, (only r v c h).2]; exact .inl ⟨rfl, hG⟩)).mono fun e W' ⟨he, bel⟩ => ?_
 subst he
 exact ⟨_, rfl, _, _, _, [], _, [], hW', trodAll_mk1 (shut_bool Tryz.underlying4 _), (trodAll_cons_mk (Below.trod laidOut (by kernel_rfl) (of_decide_eq_true (by kernel_rfl)) h0 bel lt0) (trodAll_cons_mk (Below.trod laidOut (by kernel_rfl) (of_decide_eq_true (by kernel_rfl)) h1 bel lt1) (trodAll_cons_mk (Below.trod laidOut (by kernel_rfl) (of_decide_eq_true (by kernel_rfl)) h2 bel lt2) (trodAll_cons_mk (Below.trod laidOut (by kernel_rfl) (of_decide_eq_true (by kernel_rfl)) h3 bel lt3) trodAll_mk0)))), rfl, bel.frame _, fun h => by cases h⟩
theorem fN : Tryz.prog.funcNamed "braid/braidlaw36.ConvergeEqual" = some 8 := by kernel_rfl
set_option maxHeartbeats 4000000 in
theorem fC : joinedFacts Tryz.prog 8 Tryz.f8 Rows.convergeEqualSpec Rows.convergeEqualRow = true := by
 unfold joinedFacts
 repeat' with_reducible refine Bool.and_eq_true_iff.2 ⟨?_, ?_⟩
 all_goals as_aux_lemma => kernel_rfl
theorem fI : Tryz.f8.isInstance Tryz.prog Rows.convergeEqualRow.origin Rows.convergeEqualRow.targs := of_decide_eq_true (by kernel_rfl)
theorem fX : Tryz.f8.isWrapper Tryz.prog Rows.convergeEqualRow.wrapper Rows.convergeEqualRow.mainSum := by unfold Func.isWrapper; first | (rw [if_pos (by decide +kernel)]; kernel_rfl) | (rw [if_neg (by decide +kernel)]; exact ⟨rfl, rfl⟩)
theorem over : Rows.convergeEqualRow.holds Tryz.pinned (OpenSpec.ofChange Rows.convergeEqualSpec) :=
 OpenClaim.holds_of_wide 8 Tryz.f8 rfl rfl rfl rfl rfl rfl rfl ⟨rfl, rfl, rfl, rfl, rfl⟩ rfl rfl rfl rfl rfl fN Tryz.func8 fC fI fX
  (fun os started H enc _ => lifted os started H enc)
theorem fW : Rows.convergeEqualRow.wfByText (OpenSpec.ofChange Rows.convergeEqualSpec) = true := by kernel_rfl
theorem fM : Tryz.prog.mainIs = some (true, "3fbe50e4c941b63721e5be22be883733bfc1f884c14c16cfc9dba7bed05387b6".toList) := by kernel_rfl
theorem fG : false = Rows.convergeEqualRow.goesBy Tryz.prog := by kernel_rfl
theorem fL : false = Tryz.prog.looks [] := by kernel_rfl
theorem fS : ([27, 24, 24, 9].all fun u => !Tryz.prog.wantsStandIn u) = true := by kernel_rfl
theorem proved : Rows.ConvergeEqualCardSaid :=
 Claim7.holds_tied_plain_at .later [] [.data] true (true, "3fbe50e4c941b63721e5be22be883733bfc1f884c14c16cfc9dba7bed05387b6") false
  over (fun _ h => by cases h) fW (fun _ h => by cases h) convergeEqual_row_tie rfl ⟨rfl, rfl⟩ fM rfl
  (fun f fn hf hfn => by
   obtain rfl : f = 8 := Option.some.inj (fN.symm.trans hf) |>.symm
   obtain rfl : fn = Tryz.f8 := (Option.some.inj (Tryz.func8.symm.trans hfn)).symm
   exact ⟨fL, fun j t ht => by
    rw [Tryz.params8] at ht
    have hm : t ∈ [27, 24, 24, 9] := by simpa using Array.mem_of_getElem? ht
    exact (show Tryz.prog.wantsStandIn t = false by simpa using List.all_eq_true.1 fS t hm)⟩)
  fG
end Go.Proofs.YthgpinfkodaefaaGreatDoor.lawConvergeEqual
