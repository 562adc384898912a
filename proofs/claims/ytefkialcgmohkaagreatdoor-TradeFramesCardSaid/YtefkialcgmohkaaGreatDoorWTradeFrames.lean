import Derived.Test.YtefkialcgmohkaaGreatDoorWf
namespace Go.Proofs.YtefkialcgmohkaaGreatDoor.lawTradeFrames
open Go Go.RowKit Go.ChangeShapes Go.WideShapes Go.ChangeAt
set_option linter.unusedVariables false
set_option linter.unusedSimpArgs false
theorem own : ownKnob Tryz.prog.godebug = none := by kernel_rfl
theorem laidOut : laidOutB Tryz.prog = true := by kernel_rfl
theorem door_met (os : Os) (args : Array Value) : laidMetH Tryz.prog [("braid/digest.constants", Rows.laid_braid_digest_constants)] ((World.doorLaid Tryz.prog 400 os).forCall (fun _ _ => 0) ⟨#[], args, []⟩).memory :=
 laidMetH_of_parts3 (fuel := 8) (laidMet_of_run' 8 (by kernel_rfl) (by kernel_rfl)) (by kernel_rfl) (by kernel_rfl)
set_option maxRecDepth 100000 in
theorem lifted (os : Os) (started : os.Started) (H : Type) (enc : TypeId × Value → H) :
  ReturnsInHanded {} Tryz.checked os 7 .any (fun w args => (Rows.tradeFramesSpec.pre enc Tryz.prog Tryz.f7 [] false w args ∧ laidMetH Tryz.prog [("braid/digest.constants", Rows.laid_braid_digest_constants)] w) ∧ sizedMet enc Tryz.prog Tryz.f7 (OpenSpec.ofChange Rows.tradeFramesSpec) false w args)
   (Rows.tradeFramesSpec.post enc Tryz.prog Tryz.f7 false true false false) := by
 refine returnsInHanded_of_change_and (C := Tryz.checked) (X := fun w _ => laidMetH Tryz.prog [("braid/digest.constants", Rows.laid_braid_digest_constants)] w) (fun _ _ _ hh h => h.of_heap hh) own started (by kernel_rfl) Tryz.func7
  (ChangeSpec.witness_shaped (enc := enc) (C := Tryz.checked) (os := os) (X := fun w _ => laidMetH Tryz.prog [("braid/digest.constants", Rows.laid_braid_digest_constants)] w) false (World.doorLaid Tryz.prog 400 os) #[.agg #[.slice none 0 0, .slice none 0 0], .slice none 0 0, .slice none 0 0] 8 rfl (World.shaped_of_RefB (by kernel_rfl) (by kernel_rfl)) (by kernel_rfl) (by kernel_rfl) (by kernel_rfl) (door_met os _)) ?_
 intro W base args ds gs before hval0 hW _ _ hL _
 have hval : ∀ (j : Nat) t v, Tryz.f7.params[j]? = some t → args[j]? = some v → Value.okWide Tryz.prog W .any base t v := hval0
 have hW' := hW
 obtain ⟨p, q, hA0, hV, rfl, hfz, hnd⟩ := hW
 have hA : DataW.TrodAll enc Tryz.prog W 0 (fun _ => true) true Tryz.f7.params.toList args.toList ds p := hA0
 rw [Tryz.params7] at hA hval
 obtain ⟨v0, vs0, d0, ds0, p0, q0, hargs, rfl, rfl, h0, r0⟩ := trodAll_cons hA
 obtain ⟨v1, vs1, d1, ds1, p1, q1, rfl, rfl, rfl, h1, r1⟩ := trodAll_cons r0
 obtain ⟨v2, vs2, d2, ds2, p2, q2, rfl, rfl, rfl, h2, r2⟩ := trodAll_cons r1
 obtain ⟨rfl, rfl, rfl⟩ := trodAll_nil r2
 obtain rfl : args = #[v0, v1, v2] := by cases args; simp_all
 obtain ⟨rfl, rfl⟩ := trodVars_none hV
 have lt0 : ∀ x ∈ p0, x.block < W.heap.size := by obtain ⟨m, hm⟩ := h0; exact DataW.trod_lt m _ _ _ hm
 obtain ⟨y0, e0, w0⟩ := Opn.arg (R := z01) (wf := z21) (Opn.struct (wf' := z21) Tryz.underlying25 (by kernel_rfl) (zmk.cons (Opn.slice Tryz.underlying22 (by kernel_rfl) rfl (Opn.arr Tryz.underlying62 (by kernel_rfl) (by kernel_rfl) (Opn.u8 Tryz.underlying5))) rfl (by kernel_rfl) (zmk.cons (Opn.slice Tryz.underlying23 (by kernel_rfl) rfl (Opn.struct (wf' := zcw) Tryz.underlying73 (by kernel_rfl) (zmk.cons (Opn.u32 Tryz.underlying65) rfl (by kernel_rfl) (zmk.cons (Opn.slice Tryz.underlying22 (by kernel_rfl) rfl (Opn.arr Tryz.underlying62 (by kernel_rfl) (by kernel_rfl) (Opn.u8 Tryz.underlying5))) rfl (by kernel_rfl) (zmk.cons (Opn.u64 Tryz.underlying41) rfl (by kernel_rfl) (zmk.cons (Opn.struct (wf' := zqe) Tryz.underlying69 (by kernel_rfl) (zmk.cons (Opn.u8 Tryz.underlying5) rfl (by kernel_rfl) (zmk.cons (Opn.str Tryz.underlying9) rfl (by kernel_rfl) (zmk.cons (Opn.struct (wf' := zmv) Tryz.underlying67 (by kernel_rfl) (zmk.cons (Opn.u8 Tryz.underlying5) rfl (by kernel_rfl) (zmk.cons (Opn.i64 Tryz.underlying2) rfl (by kernel_rfl) (zmk.cons (Opn.u64 Tryz.underlying41) rfl (by kernel_rfl) (zmk.cons (Opn.str Tryz.underlying9) rfl (by kernel_rfl) zmk.nil)))) (fun p => ⟨p.1, p.2.1, p.2.2.1, p.2.2.2.1⟩) (fun _ => rfl) (fun _ h => h)) rfl (by kernel_rfl) zmk.nil))) (fun p => ⟨p.1, p.2.1, p.2.2.1⟩) (fun _ => rfl) (fun _ h => h)) rfl (by kernel_rfl) (zmk.cons (Opn.struct (wf' := zqj) Tryz.underlying71 (by kernel_rfl) (zmk.cons (Opn.u32 Tryz.underlying65) rfl (by kernel_rfl) (zmk.cons (Opn.u32 Tryz.underlying65) rfl (by kernel_rfl) zmk.nil)) (fun p => ⟨p.1, p.2.1⟩) (fun _ => rfl) (fun _ h => h)) rfl (by kernel_rfl) zmk.nil))))) (fun p => ⟨p.1, p.2.1, p.2.2.1, p.2.2.2.1, p.2.2.2.2.1⟩) (fun _ => rfl) (fun _ h => h))) rfl (by kernel_rfl) zmk.nil)) (fun p => ⟨p.1, p.2.1⟩) (fun _ => rfl) (fun _ h => h)) h0 (.inr ⟨rfl, ok5 Tryz.underlying25 (hval 0 25 v0 rfl rfl)⟩)
 have lt1 : ∀ x ∈ p1, x.block < W.heap.size := by obtain ⟨m, hm⟩ := h1; exact DataW.trod_lt m _ _ _ hm
 obtain ⟨y1, e1, w1⟩ := Opn.arg (R := (z02 (z3e 32 u8R))) (wf := (fun l : List (Vector UInt8 32) => (∀ x ∈ l, (fun v : Vector UInt8 32 => ∀ x ∈ v.toList, (fun _ => True) x) x) ∧ l.length ≤ 9223372036854775807)) (Opn.slice Tryz.underlying22 (by kernel_rfl) rfl (Opn.arr Tryz.underlying62 (by kernel_rfl) (by kernel_rfl) (Opn.u8 Tryz.underlying5))) h1 (.inl ⟨rfl, ok4 Tryz.underlying22 (hval 1 22 v1 rfl rfl)⟩)
 have lt2 : ∀ x ∈ p2, x.block < W.heap.size := by obtain ⟨m, hm⟩ := h2; exact DataW.trod_lt m _ _ _ hm
 obtain ⟨y2, e2, w2⟩ := Opn.arg (R := (z02 (z3e 32 u8R))) (wf := (fun l : List (Vector UInt8 32) => (∀ x ∈ l, (fun v : Vector UInt8 32 => ∀ x ∈ v.toList, (fun _ => True) x) x) ∧ l.length ≤ 9223372036854775807)) (Opn.slice Tryz.underlying22 (by kernel_rfl) rfl (Opn.arr Tryz.underlying62 (by kernel_rfl) (by kernel_rfl) (Opn.u8 Tryz.underlying5))) h2 (.inl ⟨rfl, ok4 Tryz.underlying22 (hval 2 22 v2 rfl rfl)⟩)
 clear hA0 hval0
 have hG := zzl (x := z5w) (f := fun x : UInt32 => (x.toNat : Int)) hL rfl (by kernel_rfl : Tryz.prog.globalNamed "braid/digest.constants" = some 1) (by kernel_rfl : (Tryz.prog.globals[1]?).map (·.type) = some 249) Tryz.underlying249 Tryz.underlying65 (by kernel_rfl) (by kernel_rfl) (by decide) (by kernel_rfl)
 have only : ∀ r v c, lr [(1001, some (Value.bool true, z57.glob 1 ((z3e 64 z0p)) z5w))] r = some (v, c) → v = .bool true ∧ c = z57.glob 1 ((z3e 64 z0p)) z5w := fun r v c h => by
  rw [z1i] at h
  split at h
  ·
   cases h; exact ⟨rfl, rfl⟩
  ·
   simp [lr, lk] at h
 refine (z1u.lawG (W := W) (zfz _ _ _) (ztn _ _ _ w0 w1 w2) (vs := [v0, v1, v2]) ⟨e0, ⟨e1, ⟨e2, trivial⟩⟩⟩ (fun r v c h => by rw [(only r v c h).1]; rfl) (fun r v c h => by rw [(only r v c h).1, (only r v c h).2]; exact .inl ⟨rfl, hG⟩)).mono fun e W' ⟨he, bel⟩ => ?_
 subst he
 exact ⟨_, rfl, _, _, _, [], _, [], hW', trodAll_mk1 (shut_bool Tryz.underlying4 _), (trodAll_cons_mk (Below.trod laidOut (by kernel_rfl) (of_decide_eq_true (by kernel_rfl)) h0 bel lt0) (trodAll_cons_mk (Below.trod laidOut (by kernel_rfl) (of_decide_eq_true (by kernel_rfl)) h1 bel lt1) (trodAll_cons_mk (Below.trod laidOut (by kernel_rfl) (of_decide_eq_true (by kernel_rfl)) h2 bel lt2) trodAll_mk0))), rfl, bel.frame _, fun h => by cases h⟩
theorem over : Rows.tradeFramesRow.holds Tryz.pinned (OpenSpec.ofChange Rows.tradeFramesSpec) :=
 OpenClaim.holds_of_wide 7 Tryz.f7 rfl rfl rfl rfl rfl rfl rfl ⟨rfl, rfl, rfl, rfl, rfl⟩ rfl rfl rfl rfl rfl (by kernel_rfl) Tryz.func7 (by kernel_rfl)
  (of_decide_eq_true (by kernel_rfl)) (by unfold Func.isWrapper; first | (rw [if_pos (by decide +kernel)]; kernel_rfl) | (rw [if_neg (by decide +kernel)]; exact ⟨rfl, rfl⟩))
  (fun os started H enc _ => lifted os started H enc)
theorem proved : Rows.TradeFramesCardSaid :=
 Claim7.holds_tied_plain_at .later [] [.data] true (true, "0b2782c8e365848f93fe9550c1eafe7c2f8a892fdc6e9872f281f679c2fe5472") false
  over (fun _ h => by cases h) (by kernel_rfl) (fun _ h => by cases h) tradeFrames_row_tie rfl ⟨rfl, rfl⟩ (by kernel_rfl) rfl
  (fun f fn hf hfn => by
   obtain rfl : f = 7 := Option.some.inj ((show Tryz.prog.funcNamed "braid/braidlaw27.TradeFrames" = some 7 by kernel_rfl).symm.trans hf) |>.symm
   obtain rfl : fn = Tryz.f7 := (Option.some.inj (Tryz.func7.symm.trans hfn)).symm
   exact ⟨by kernel_rfl, fun j t ht => by
    rw [Tryz.params7] at ht
    have hm : t ∈ [25, 22, 22] := by simpa using Array.mem_of_getElem? ht
    have hall : ([25, 22, 22].all fun u => !Tryz.prog.wantsStandIn u) = true := by kernel_rfl
    exact (show Tryz.prog.wantsStandIn t = false by simpa using List.all_eq_true.1 hall t hm)⟩)
  (by kernel_rfl)
end Go.Proofs.YtefkialcgmohkaaGreatDoor.lawTradeFrames
