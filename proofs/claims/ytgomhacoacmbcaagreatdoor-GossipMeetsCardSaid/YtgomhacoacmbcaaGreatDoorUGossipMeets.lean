import Derived.Test.YtgomhacoacmbcaaGreatDoorUf
namespace Go.Proofs.YtgomhacoacmbcaaGreatDoor.lawGossipMeets
set_option maxRecDepth 100000
set_option maxHeartbeats 4000000
open Go Go.RowKit _root_.Go.Proofs.Tryz
open Go Go.RowKit Go.ChangeShapes Go.WideShapes Go.ChangeAt
set_option linter.unusedVariables false
set_option linter.unusedSimpArgs false
theorem own : ownKnob Tryz.prog.godebug = none := by kernel_rfl
theorem laidOut : laidOutB Tryz.prog = true := by kernel_rfl
theorem door_met (os : Os) (args : Array Value) : laidMetH Tryz.prog [("braid/digest.constants", Rows.laid_braid_digest_constants)] ((World.doorLaid Tryz.prog 400 os).forCall (λ_ _ => 0) ⟨#[], args, []⟩).memory :=
 laidMetH_of_parts3 (fuel := 8) (laidMet_of_run' 8 (by kernel_rfl) (by kernel_rfl)) (by kernel_rfl) (by kernel_rfl)
theorem lifted (os : Os) (started : os.Started) (H : Type) (enc : TypeId × Value -> H) :
  ReturnsInHanded {} Tryz.checked os 3 .any (λw args => (Rows.gossipMeetsSpec.pre enc Tryz.prog Tryz.f3 [] false w args /\ laidMetH Tryz.prog [("braid/digest.constants", Rows.laid_braid_digest_constants)] w) /\ sizedMet enc Tryz.prog Tryz.f3 (OpenSpec.ofChange Rows.gossipMeetsSpec) false w args)
   (Rows.gossipMeetsSpec.post enc Tryz.prog Tryz.f3 false true false false) := by
 refine returnsInHanded_of_change_and (C := Tryz.checked) (X := λw _ => laidMetH Tryz.prog [("braid/digest.constants", Rows.laid_braid_digest_constants)] w) (λ_ _ _ hh h => h.of_heap hh) own started (by kernel_rfl) func3
  (ChangeSpec.witness_shaped (enc := enc) (C := Tryz.checked) (os := os) (X := λw _ => laidMetH Tryz.prog [("braid/digest.constants", Rows.laid_braid_digest_constants)] w) false (World.doorLaid Tryz.prog 400 os) #[.slice none 0 0, .agg #[.int .i64 (0), .int .i64 (0)], .agg #[.int .i64 (0), .int .i64 (0)]] 8 rfl (World.shaped_of_RefB (by kernel_rfl) (by kernel_rfl)) (by kernel_rfl) (by kernel_rfl) (by kernel_rfl) (door_met os _)) ?_
 intro W base args ds gs before hval0 hW _ _ hL _
 have hval : ∀ (j : Nat) t v, Tryz.f3.params[j]? = some t -> args[j]? = some v -> Value.okWide Tryz.prog W .any base t v := hval0
 have hW' := hW
 obtain⟨p, q, hA0, hV, rfl, hfz, hnd⟩ := hW
 have hA : DataW.TrodAll enc Tryz.prog W 0 (λ_ => true) true Tryz.f3.params.toList args.toList ds p := hA0
 rw[Tryz.params3] at hA hval
 obtain⟨v0, vs0, d0, ds0, p0, q0, hargs, rfl, rfl, h0, r0⟩ := trodAll_cons hA
 obtain⟨v1, vs1, d1, ds1, p1, q1, rfl, rfl, rfl, h1, r1⟩ := trodAll_cons r0
 obtain⟨v2, vs2, d2, ds2, p2, q2, rfl, rfl, rfl, h2, r2⟩ := trodAll_cons r1
 obtain⟨rfl, rfl, rfl⟩ := trodAll_nil r2
 obtain rfl : args = #[v0, v1, v2] := by cases args; simp_all
 obtain⟨rfl, rfl⟩ := trodVars_none hV
 have lt0 : ∀ x ∈ p0, x.block < W.heap.size := by obtain⟨m, hm⟩ := h0; exact DataW.trod_lt m _ _ _ hm
 obtain⟨y0, e0, w0⟩ := Opn.arg (R := (A3 A8)) (wf := (λl : List A4 => (∀ x ∈ l, CN x) /\ l.length <= 9223372036854775807)) (Opn.slice underlying22 (by kernel_rfl) rfl (Opn.struct (wf' := CN) underlying34 (by kernel_rfl) (Cf.cons (Opn.slice underlying31 (by kernel_rfl) rfl (Opn.arr underlying61 (by kernel_rfl) (by kernel_rfl) (Opn.u8 underlying5))) rfl (by kernel_rfl) (Cf.cons (Opn.slice underlying32 (by kernel_rfl) rfl (Opn.struct (wf' := FE) underlying73 (by kernel_rfl) (Cf.cons (Opn.u32 underlying65) rfl (by kernel_rfl) (Cf.cons (Opn.slice underlying31 (by kernel_rfl) rfl (Opn.arr underlying61 (by kernel_rfl) (by kernel_rfl) (Opn.u8 underlying5))) rfl (by kernel_rfl) (Cf.cons (Opn.u64 underlying52) rfl (by kernel_rfl) (Cf.cons (Opn.struct (wf' := TA) underlying69 (by kernel_rfl) (Cf.cons (Opn.u8 underlying5) rfl (by kernel_rfl) (Cf.cons (Opn.str underlying9) rfl (by kernel_rfl) (Cf.cons (Opn.struct (wf' := Tz) underlying67 (by kernel_rfl) (Cf.cons (Opn.u8 underlying5) rfl (by kernel_rfl) (Cf.cons (Opn.i64 underlying2) rfl (by kernel_rfl) (Cf.cons (Opn.u64 underlying52) rfl (by kernel_rfl) (Cf.cons (Opn.str underlying9) rfl (by kernel_rfl) Cf.nil)))) (λp => ⟨p.1, p.2.1, p.2.2.1, p.2.2.2.1⟩) (λ_ => rfl) (λ_ h => h)) rfl (by kernel_rfl) Cf.nil))) (λp => ⟨p.1, p.2.1, p.2.2.1⟩) (λ_ => rfl) (λ_ h => h)) rfl (by kernel_rfl) (Cf.cons (Opn.struct (wf' := TB) underlying71 (by kernel_rfl) (Cf.cons (Opn.u32 underlying65) rfl (by kernel_rfl) (Cf.cons (Opn.u32 underlying65) rfl (by kernel_rfl) Cf.nil)) (λp => ⟨p.1, p.2.1⟩) (λ_ => rfl) (λ_ h => h)) rfl (by kernel_rfl) Cf.nil))))) (λp => ⟨p.1, p.2.1, p.2.2.1, p.2.2.2.1, p.2.2.2.2.1⟩) (λ_ => rfl) (λ_ h => h))) rfl (by kernel_rfl) Cf.nil)) (λp => ⟨p.1, p.2.1⟩) (λ_ => rfl) (λ_ h => h))) h0 (.inl ⟨rfl, ok4 underlying22 (hval 0 22 v0 rfl rfl)⟩)
 have lt1 : ∀ x ∈ p1, x.block < W.heap.size := by obtain⟨m, hm⟩ := h1; exact DataW.trod_lt m _ _ _ hm
 obtain⟨y1, e1, w1⟩ := Opn.arg (R := Bn) (wf := IE) (Opn.struct (wf' := IE) underlying24 (by kernel_rfl) (Cf.cons (Opn.i64 underlying3) rfl (by kernel_rfl) (Cf.cons (Opn.i64 underlying3) rfl (by kernel_rfl) Cf.nil)) (λp => ⟨p.1, p.2.1⟩) (λ_ => rfl) (λ_ h => h)) h1 (.inr ⟨rfl, ok5 underlying24 (hval 1 24 v1 rfl rfl)⟩)
 have lt2 : ∀ x ∈ p2, x.block < W.heap.size := by obtain⟨m, hm⟩ := h2; exact DataW.trod_lt m _ _ _ hm
 obtain⟨y2, e2, w2⟩ := Opn.arg (R := Bn) (wf := IE) (Opn.struct (wf' := IE) underlying24 (by kernel_rfl) (Cf.cons (Opn.i64 underlying3) rfl (by kernel_rfl) (Cf.cons (Opn.i64 underlying3) rfl (by kernel_rfl) Cf.nil)) (λp => ⟨p.1, p.2.1⟩) (λ_ => rfl) (λ_ h => h)) h2 (.inr ⟨rfl, ok5 underlying24 (hval 2 24 v2 rfl rfl)⟩)
 clear hA0 hval0
 have hG := XX (x := Bv) (f := λx : UInt32 => (x.toNat : Int)) hL rfl (by kernel_rfl : Tryz.prog.globalNamed "braid/digest.constants" = some 1) (by kernel_rfl : (Tryz.prog.globals[1]?).map (·.type) = some 244) underlying244 underlying65 (by kernel_rfl) (by kernel_rfl) (by decide) (by kernel_rfl)
 have only : ∀ r v c, lr [(1001, some (Value.bool true, AK.glob 1 ((Av 64 Aa)) Bv))] r = some (v, c) -> v = .bool true /\ c = AK.glob 1 ((Av 64 Aa)) Bv := λr v c h => by
  rw[BB] at h
  split at h
  ·
   cases h; exact⟨rfl, rfl⟩
  ·
   simp[lr, lk] at h
 refine(Aj.lawG (W := W) (zgc _ _ _) (zxe _ _ _ w0 w1 w2) (vs := [v0, v1, v2]) ⟨e0, ⟨e1, ⟨e2, trivial⟩⟩⟩ (λr v c h => by rw[(only r v c h).1]; rfl) (λr v c h => by rw[(only r v c h).1, (only r v c h).2]; exact .inl ⟨rfl, hG⟩)).mono λe W' ⟨he, bel⟩ => ?_
 subst he
 exact⟨_, rfl, _, _, _, [], _, [], hW', trodAll_mk1 (shut_bool underlying4 _), (trodAll_cons_mk (Below.trod laidOut (by kernel_rfl) (of_decide_eq_true (by kernel_rfl)) h0 bel lt0) (trodAll_cons_mk (Below.trod laidOut (by kernel_rfl) (of_decide_eq_true (by kernel_rfl)) h1 bel lt1) (trodAll_cons_mk (Below.trod laidOut (by kernel_rfl) (of_decide_eq_true (by kernel_rfl)) h2 bel lt2) trodAll_mk0))), rfl, bel.frame _, λh => by cases h⟩
theorem fN : Tryz.prog.funcNamed "braid/braidlaw38.GossipMeets" = some 3 := by kernel_rfl
theorem fC : joinedFacts Tryz.prog 3 Tryz.f3 Rows.gossipMeetsSpec Rows.gossipMeetsRow = true := by
 unfold joinedFacts
 repeat' with_reducible refine Bool.and_eq_true_iff.2 ⟨?_, ?_⟩
 all_goals as_aux_lemma => kernel_rfl
theorem fI : Tryz.f3.isInstance Tryz.prog Rows.gossipMeetsRow.origin Rows.gossipMeetsRow.targs := of_decide_eq_true (by kernel_rfl)
theorem fX : Tryz.f3.isWrapper Tryz.prog Rows.gossipMeetsRow.wrapper Rows.gossipMeetsRow.mainSum := by unfold Func.isWrapper; first | (rw[if_pos (by decide +kernel)]; kernel_rfl) | (rw[if_neg (by decide +kernel)]; exact⟨rfl, rfl⟩)
theorem over : Rows.gossipMeetsRow.holds Tryz.pinned (OpenSpec.ofChange Rows.gossipMeetsSpec) :=
 OpenClaim.holds_of_wide 3 Tryz.f3 rfl rfl rfl rfl rfl rfl rfl ⟨rfl, rfl, rfl, rfl, rfl⟩ rfl rfl rfl rfl rfl fN func3 fC fI fX
  (λos started H enc _ => lifted os started H enc)
theorem fW : Rows.gossipMeetsRow.wfByText (OpenSpec.ofChange Rows.gossipMeetsSpec) = true := by kernel_rfl
theorem fM : Tryz.prog.mainIs = some (true, "a248b2cfd2a0277fafe6588c9c5c95fe5e4c657be1834c5b463d01b6048c0434".toList) := by kernel_rfl
theorem fG : false = Rows.gossipMeetsRow.goesBy Tryz.prog := by kernel_rfl
theorem fL : false = Tryz.prog.looks [] := by kernel_rfl
theorem fS : ([22, 24, 24].all λu => !Tryz.prog.wantsStandIn u) = true := by kernel_rfl
theorem proved : Rows.GossipMeetsCardSaid :=
 Claim7.holds_tied_plain_at .later [] [.data] true (true, "a248b2cfd2a0277fafe6588c9c5c95fe5e4c657be1834c5b463d01b6048c0434") false
  over (λ_ h => by cases h) fW (λ_ h => by cases h) gossipMeets_row_tie rfl ⟨rfl, rfl⟩ fM rfl
  (λf fn hf hfn => by
   obtain rfl : f = 3 := Option.some.inj (fN.symm.trans hf) |>.symm
   obtain rfl : fn = Tryz.f3 := (Option.some.inj (func3.symm.trans hfn)).symm
   exact⟨fL, λj t ht => by
    rw[Tryz.params3] at ht
    have hm : t ∈ [22, 24, 24] := by simpa using Array.mem_of_getElem? ht
    exact(show Tryz.prog.wantsStandIn t = false by simpa using List.all_eq_true.1 fS t hm)⟩)
  fG
end Go.Proofs.YtgomhacoacmbcaaGreatDoor.lawGossipMeets
