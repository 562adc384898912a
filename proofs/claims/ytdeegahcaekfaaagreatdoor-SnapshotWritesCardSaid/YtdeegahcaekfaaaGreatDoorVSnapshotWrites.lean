import Derived.Test.YtdeegahcaekfaaaGreatDoorVf
namespace Go.Proofs.YtdeegahcaekfaaaGreatDoor.lawSnapshotWrites
set_option maxRecDepth 100000
set_option maxHeartbeats 4000000
open Go Go.RowKit _root_.Go.Proofs.Tryz
open Go Go.RowKit Go.ChangeShapes Go.WideShapes Go.ChangeAt
set_option linter.unusedVariables false
set_option linter.unusedSimpArgs false
theorem own : ownKnob Tryz.prog.godebug = none := by kernel_rfl
theorem laidOut : laidOutB Tryz.prog = true := by kernel_rfl
theorem door_met (os : Os) (args : Array Value) : laidMetH Tryz.prog [("braid/digest.constants", Rows.laid_braid_digest_constants)] ((World.doorLaid Tryz.prog 400 os).forCall (λ_ _ => 0) ⟨#[], args, []⟩).memory :=
 laidMetH_of_parts3 (fuel := 8) (laidMet_of_run' 8 (by kernel_rfl) (by kernel_rfl)) (by kernel_rfl) (by kernel_rfl)
theorem lifted (os : Os) (started : os.Started) (H : Type) (enc : TypeId × Value -> H) :
  ReturnsInHanded {} Tryz.checked os 3 .any (λw args => (Rows.snapshotWritesSpec.pre enc Tryz.prog Tryz.f3 [] false w args /\ laidMetH Tryz.prog [("braid/digest.constants", Rows.laid_braid_digest_constants)] w) /\ sizedMet enc Tryz.prog Tryz.f3 (OpenSpec.ofChange Rows.snapshotWritesSpec) false w args)
   (Rows.snapshotWritesSpec.post enc Tryz.prog Tryz.f3 false true false false) := by
 refine returnsInHanded_of_change_and (C := Tryz.checked) (X := λw _ => laidMetH Tryz.prog [("braid/digest.constants", Rows.laid_braid_digest_constants)] w) (λ_ _ _ hh h => h.of_heap hh) own started (by kernel_rfl) func3
  (ChangeSpec.witness_shaped (enc := enc) (C := Tryz.checked) (os := os) (X := λw _ => laidMetH Tryz.prog [("braid/digest.constants", Rows.laid_braid_digest_constants)] w) false (World.doorLaid Tryz.prog 400 os) #[.agg #[.int .i64 (0), .slice none 0 0, .slice none 0 0, .slice none 0 0], .agg #[.slice none 0 0, .slice none 0 0], .agg #[.slice none 0 0, .slice none 0 0]] 8 rfl (World.shaped_of_RefB (by kernel_rfl) (by kernel_rfl)) (by kernel_rfl) (by kernel_rfl) (by kernel_rfl) (door_met os _)) ?_
 intro W base args ds gs before hval0 hW _ _ hL _
 have hval : ∀ (j : Nat) t v, Tryz.f3.params[j]? = some t -> args[j]? = some v -> Value.okWide Tryz.prog W .any base t v := hval0
 have hW' := hW
 obtain⟨p, q, hA0, hV, rfl, hfz, hnd⟩ := hW
 have hA : DataW.TrodAll enc Tryz.prog W 0 (λ_ => true) true Tryz.f3.params.toList args.toList ds p := hA0
 rw[Tryz.params3] at hA hval
 obtain⟨v0, vs0, d0, ds0, p0, q0, hargs, rfl, rfl, h0, r0⟩ := trodAll_cons hA
 obtain⟨v1, vs1, d1, ds1, p1, q1, rfl, rfl, rfl, h1, r1⟩ := trodAll_cons r0
 obtain⟨v2, vs2, d2, ds2, p2, q2, rfl, rfl, rfl, h2, r2⟩ := trodAll_cons r1
 obtain⟨rfl, rfl, rfl⟩ := trodAll_nil r2
 obtain rfl : args = #[v0, v1, v2] := by cases args; simp_all
 obtain⟨rfl, rfl⟩ := trodVars_none hV
 have lt0 : ∀ x ∈ p0, x.block < W.heap.size := by obtain⟨m, hm⟩ := h0; exact DataW.trod_lt m _ _ _ hm
 obtain⟨y0, e0, w0⟩ := Opn.arg (R := Ch) (wf := JU) (Opn.struct (wf' := JU) underlying30 (by kernel_rfl) (Bp.cons (Opn.i64 underlying3) rfl (by kernel_rfl) (Bp.cons (Opn.struct (wf' := Tw) underlying24 (by kernel_rfl) (Bp.cons (Opn.slice underlying22 (by kernel_rfl) rfl (Opn.struct (wf' := Tv) underlying73 (by kernel_rfl) (Bp.cons (Opn.str underlying9) rfl (by kernel_rfl) (Bp.cons (Opn.arr underlying71 (by kernel_rfl) (by kernel_rfl) (Opn.u8 underlying5)) rfl (by kernel_rfl) Bp.nil)) (λp => ⟨p.1, p.2.1⟩) (λ_ => rfl) (λ_ h => h))) rfl (by kernel_rfl) Bp.nil) (λp => ⟨p.1⟩) (λ_ => rfl) (λ_ h => h)) rfl (by kernel_rfl) (Bp.cons (Opn.struct (wf' := Tz) underlying27 (by kernel_rfl) (Bp.cons (Opn.slice underlying25 (by kernel_rfl) rfl (Opn.struct (wf' := Tx) underlying75 (by kernel_rfl) (Bp.cons (Opn.str underlying9) rfl (by kernel_rfl) (Bp.cons (Opn.struct (wf' := JT) underlying54 (by kernel_rfl) (Bp.cons (Opn.u8 underlying5) rfl (by kernel_rfl) (Bp.cons (Opn.i64 underlying2) rfl (by kernel_rfl) (Bp.cons (Opn.u64 underlying52) rfl (by kernel_rfl) (Bp.cons (Opn.str underlying9) rfl (by kernel_rfl) Bp.nil)))) (λp => ⟨p.1, p.2.1, p.2.2.1, p.2.2.2.1⟩) (λ_ => rfl) (λ_ h => h)) rfl (by kernel_rfl) (Bp.cons (Opn.u64 underlying52) rfl (by kernel_rfl) (Bp.cons (Opn.arr underlying71 (by kernel_rfl) (by kernel_rfl) (Opn.u8 underlying5)) rfl (by kernel_rfl) Bp.nil)))) (λp => ⟨p.1, p.2.1, p.2.2.1, p.2.2.2.1⟩) (λ_ => rfl) (λ_ h => h))) rfl (by kernel_rfl) Bp.nil) (λp => ⟨p.1⟩) (λ_ => rfl) (λ_ h => h)) rfl (by kernel_rfl) (Bp.cons (Opn.slice underlying28 (by kernel_rfl) rfl (Opn.arr underlying71 (by kernel_rfl) (by kernel_rfl) (Opn.u8 underlying5))) rfl (by kernel_rfl) Bp.nil)))) (λp => ⟨p.1, p.2.1, p.2.2.1, p.2.2.2.1⟩) (λ_ => rfl) (λ_ h => h)) h0 (.inr ⟨rfl, ok5 underlying30 (hval 0 30 v0 rfl rfl)⟩)
 have lt1 : ∀ x ∈ p1, x.block < W.heap.size := by obtain⟨m, hm⟩ := h1; exact DataW.trod_lt m _ _ _ hm
 obtain⟨y1, e1, w1⟩ := Opn.arg (R := AF) (wf := EL) (Opn.struct (wf' := EL) underlying33 (by kernel_rfl) (Bp.cons (Opn.slice underlying28 (by kernel_rfl) rfl (Opn.arr underlying71 (by kernel_rfl) (by kernel_rfl) (Opn.u8 underlying5))) rfl (by kernel_rfl) (Bp.cons (Opn.slice underlying31 (by kernel_rfl) rfl (Opn.struct (wf' := Mt) underlying60 (by kernel_rfl) (Bp.cons (Opn.u32 underlying51) rfl (by kernel_rfl) (Bp.cons (Opn.slice underlying28 (by kernel_rfl) rfl (Opn.arr underlying71 (by kernel_rfl) (by kernel_rfl) (Opn.u8 underlying5))) rfl (by kernel_rfl) (Bp.cons (Opn.u64 underlying52) rfl (by kernel_rfl) (Bp.cons (Opn.struct (wf' := Pw) underlying56 (by kernel_rfl) (Bp.cons (Opn.u8 underlying5) rfl (by kernel_rfl) (Bp.cons (Opn.str underlying9) rfl (by kernel_rfl) (Bp.cons (Opn.struct (wf' := JT) underlying54 (by kernel_rfl) (Bp.cons (Opn.u8 underlying5) rfl (by kernel_rfl) (Bp.cons (Opn.i64 underlying2) rfl (by kernel_rfl) (Bp.cons (Opn.u64 underlying52) rfl (by kernel_rfl) (Bp.cons (Opn.str underlying9) rfl (by kernel_rfl) Bp.nil)))) (λp => ⟨p.1, p.2.1, p.2.2.1, p.2.2.2.1⟩) (λ_ => rfl) (λ_ h => h)) rfl (by kernel_rfl) Bp.nil))) (λp => ⟨p.1, p.2.1, p.2.2.1⟩) (λ_ => rfl) (λ_ h => h)) rfl (by kernel_rfl) (Bp.cons (Opn.struct (wf' := Px) underlying58 (by kernel_rfl) (Bp.cons (Opn.u32 underlying51) rfl (by kernel_rfl) (Bp.cons (Opn.u32 underlying51) rfl (by kernel_rfl) Bp.nil)) (λp => ⟨p.1, p.2.1⟩) (λ_ => rfl) (λ_ h => h)) rfl (by kernel_rfl) Bp.nil))))) (λp => ⟨p.1, p.2.1, p.2.2.1, p.2.2.2.1, p.2.2.2.2.1⟩) (λ_ => rfl) (λ_ h => h))) rfl (by kernel_rfl) Bp.nil)) (λp => ⟨p.1, p.2.1⟩) (λ_ => rfl) (λ_ h => h)) h1 (.inr ⟨rfl, ok5 underlying33 (hval 1 33 v1 rfl rfl)⟩)
 have lt2 : ∀ x ∈ p2, x.block < W.heap.size := by obtain⟨m, hm⟩ := h2; exact DataW.trod_lt m _ _ _ hm
 obtain⟨y2, e2, w2⟩ := Opn.arg (R := AF) (wf := EL) (Opn.struct (wf' := EL) underlying33 (by kernel_rfl) (Bp.cons (Opn.slice underlying28 (by kernel_rfl) rfl (Opn.arr underlying71 (by kernel_rfl) (by kernel_rfl) (Opn.u8 underlying5))) rfl (by kernel_rfl) (Bp.cons (Opn.slice underlying31 (by kernel_rfl) rfl (Opn.struct (wf' := Mt) underlying60 (by kernel_rfl) (Bp.cons (Opn.u32 underlying51) rfl (by kernel_rfl) (Bp.cons (Opn.slice underlying28 (by kernel_rfl) rfl (Opn.arr underlying71 (by kernel_rfl) (by kernel_rfl) (Opn.u8 underlying5))) rfl (by kernel_rfl) (Bp.cons (Opn.u64 underlying52) rfl (by kernel_rfl) (Bp.cons (Opn.struct (wf' := Pw) underlying56 (by kernel_rfl) (Bp.cons (Opn.u8 underlying5) rfl (by kernel_rfl) (Bp.cons (Opn.str underlying9) rfl (by kernel_rfl) (Bp.cons (Opn.struct (wf' := JT) underlying54 (by kernel_rfl) (Bp.cons (Opn.u8 underlying5) rfl (by kernel_rfl) (Bp.cons (Opn.i64 underlying2) rfl (by kernel_rfl) (Bp.cons (Opn.u64 underlying52) rfl (by kernel_rfl) (Bp.cons (Opn.str underlying9) rfl (by kernel_rfl) Bp.nil)))) (λp => ⟨p.1, p.2.1, p.2.2.1, p.2.2.2.1⟩) (λ_ => rfl) (λ_ h => h)) rfl (by kernel_rfl) Bp.nil))) (λp => ⟨p.1, p.2.1, p.2.2.1⟩) (λ_ => rfl) (λ_ h => h)) rfl (by kernel_rfl) (Bp.cons (Opn.struct (wf' := Px) underlying58 (by kernel_rfl) (Bp.cons (Opn.u32 underlying51) rfl (by kernel_rfl) (Bp.cons (Opn.u32 underlying51) rfl (by kernel_rfl) Bp.nil)) (λp => ⟨p.1, p.2.1⟩) (λ_ => rfl) (λ_ h => h)) rfl (by kernel_rfl) Bp.nil))))) (λp => ⟨p.1, p.2.1, p.2.2.1, p.2.2.2.1, p.2.2.2.2.1⟩) (λ_ => rfl) (λ_ h => h))) rfl (by kernel_rfl) Bp.nil)) (λp => ⟨p.1, p.2.1⟩) (λ_ => rfl) (λ_ h => h)) h2 (.inr ⟨rfl, ok5 underlying33 (hval 2 33 v2 rfl rfl)⟩)
 clear hA0 hval0
 have hG := Y4 (x := C6) (f := λx : UInt32 => (x.toNat : Int)) hL rfl (by kernel_rfl : Tryz.prog.globalNamed "braid/digest.constants" = some 1) (by kernel_rfl : (Tryz.prog.globals[1]?).map (·.type) = some 284) underlying284 underlying51 (by kernel_rfl) (by kernel_rfl) (by decide) (by kernel_rfl)
 have only : ∀ r v c, lr [(1001, some (Value.bool true, AO.glob 1 ((Az 64 A9)) C6))] r = some (v, c) -> v = .bool true /\ c = AO.glob 1 ((Az 64 A9)) C6 := λr v c h => by
  rw[C0] at h
  split at h
  ·
   cases h; exact⟨rfl, rfl⟩
  ·
   simp[lr, lk] at h
 refine(Ah.lawG (W := W) (zfl _ _ _) (ztj _ _ _ w0 w1 w2) (vs := [v0, v1, v2]) ⟨e0, ⟨e1, ⟨e2, trivial⟩⟩⟩ (λr v c h => by rw[(only r v c h).1]; rfl) (λr v c h => by rw[(only r v c h).1, (only r v c h).2]; exact .inl ⟨rfl, hG⟩)).mono λe W' ⟨he, bel⟩ => ?_
 subst he
 exact⟨_, rfl, _, _, _, [], _, [], hW', trodAll_mk1 (shut_bool underlying4 _), (trodAll_cons_mk (Below.trod laidOut (by kernel_rfl) (of_decide_eq_true (by kernel_rfl)) h0 bel lt0) (trodAll_cons_mk (Below.trod laidOut (by kernel_rfl) (of_decide_eq_true (by kernel_rfl)) h1 bel lt1) (trodAll_cons_mk (Below.trod laidOut (by kernel_rfl) (of_decide_eq_true (by kernel_rfl)) h2 bel lt2) trodAll_mk0))), rfl, bel.frame _, λh => by cases h⟩
theorem fN : Tryz.prog.funcNamed "braid/braidlaw42.SnapshotWrites" = some 3 := by kernel_rfl
theorem fC : joinedFacts Tryz.prog 3 Tryz.f3 Rows.snapshotWritesSpec Rows.snapshotWritesRow = true := by
 unfold joinedFacts
 repeat' with_reducible refine Bool.and_eq_true_iff.2 ⟨?_, ?_⟩
 all_goals as_aux_lemma => kernel_rfl
theorem fI : Tryz.f3.isInstance Tryz.prog Rows.snapshotWritesRow.origin Rows.snapshotWritesRow.targs := of_decide_eq_true (by kernel_rfl)
theorem fX : Tryz.f3.isWrapper Tryz.prog Rows.snapshotWritesRow.wrapper Rows.snapshotWritesRow.mainSum := by unfold Func.isWrapper; first | (rw[if_pos (by decide +kernel)]; kernel_rfl) | (rw[if_neg (by decide +kernel)]; exact⟨rfl, rfl⟩)
theorem over : Rows.snapshotWritesRow.holds Tryz.pinned (OpenSpec.ofChange Rows.snapshotWritesSpec) :=
 OpenClaim.holds_of_wide 3 Tryz.f3 rfl rfl rfl rfl rfl rfl rfl ⟨rfl, rfl, rfl, rfl, rfl⟩ rfl rfl rfl rfl rfl fN func3 fC fI fX
  (λos started H enc _ => lifted os started H enc)
theorem fW : Rows.snapshotWritesRow.wfByText (OpenSpec.ofChange Rows.snapshotWritesSpec) = true := by kernel_rfl
theorem fM : Tryz.prog.mainIs = some (true, "986bd966bff660b81e16025d01c8810ec7d87144ac1c12f2de55c79679f69665".toList) := by kernel_rfl
theorem fG : false = Rows.snapshotWritesRow.goesBy Tryz.prog := by kernel_rfl
theorem fL : false = Tryz.prog.looks [] := by kernel_rfl
theorem fS : ([30, 33, 33].all λu => !Tryz.prog.wantsStandIn u) = true := by kernel_rfl
theorem proved : Rows.SnapshotWritesCardSaid :=
 Claim7.holds_tied_plain_at .later [] [.data] true (true, "986bd966bff660b81e16025d01c8810ec7d87144ac1c12f2de55c79679f69665") false
  over (λ_ h => by cases h) fW (λ_ h => by cases h) snapshotWrites_row_tie rfl ⟨rfl, rfl⟩ fM rfl
  (λf fn hf hfn => by
   obtain rfl : f = 3 := Option.some.inj (fN.symm.trans hf) |>.symm
   obtain rfl : fn = Tryz.f3 := (Option.some.inj (func3.symm.trans hfn)).symm
   exact⟨fL, λj t ht => by
    rw[Tryz.params3] at ht
    have hm : t ∈ [30, 33, 33] := by simpa using Array.mem_of_getElem? ht
    exact(show Tryz.prog.wantsStandIn t = false by simpa using List.all_eq_true.1 fS t hm)⟩)
  fG
end Go.Proofs.YtdeegahcaekfaaaGreatDoor.lawSnapshotWrites
