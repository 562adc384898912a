/- Sessions: the plain laws SessionNext, SessionOver, SessionFaults, SessionNames. -/
import Derived.Test.YtklfgpdfongaeaaPSes2
namespace Go.Proofs.Ytklfgpdfongaeaa
open Go
set_option linter.unusedSimpArgs false
set_option linter.unusedVariables false
theorem lawNext (s : api_Session) (f : api_Frame) (_ : wf_api_Session s) (hw : wf_api_Frame f) : braidlaw25_SessionNext s f = some true := by
  unfold braidlaw25_SessionNext
  obtain ⟨b, hb, hb2⟩ := great_eq f hw
  rw [alive_eq, hb]
  cases b with
  | true => rfl
  | false =>
    obtain ⟨h, -⟩ := hb2 rfl
    rw [refCheck_eq, rcheck_eq f h]
    cases hs : goodS s with
    | false => rfl
    | true =>
      cases hf : goodF f with
      | false => rfl
      | true =>
        obtain ⟨k1, k2, k3, k4, k5, -⟩ := take_facts s f hs hf h
        have hg := goodS_facts hs
        have hk := kind_of_good hf
        rw [sTake_eq s f h, sNext_good s.State f.Kind hg.1 hg.2.1 hk.1 hk.2]
        generalize takeS s f = r at k1 k2 k3 k4 k5 ⊢
        obtain ⟨t, l, e⟩ := r
        simp only at k1 k2 k3 k4 k5
        subst k1
        simp only [bs, if_true, bne_self_eq_false, Bool.false_eq_true, if_false, Bool.not_true]
        rw [refCheck_eq, k2]
        simp only [bs, if_true, bne_self_eq_false, Bool.false_eq_true, if_false]
        have e3 : (t.Faults != s.Faults) = false := by simpa using k3
        rw [e3]
        simp only [Bool.false_eq_true, if_false]
        have hc : (if (s.State == 1) = true then if (f.Kind == 1) = true then some (f.N != 1) else some false else some false : Option Bool) = some (decide (s.State = 1 ∧ f.Kind = 1 ∧ f.N ≠ 1)) := by
          by_cases h1 : s.State = 1
          · by_cases h2 : f.Kind = 1
            · by_cases h3 : f.N = 1
              · simp [h1, h2, h3]
              · simp [h1, h2, h3]
            · simp [h1, h2]
          · simp [h1]
        rw [hc, k4]
        simp only [bs]
        by_cases hn : s.State = 1 ∧ f.Kind = 1 ∧ f.N ≠ 1
        · rw [if_pos hn] at k5
          rw [decide_eq_true hn, k5]; rfl
        · rw [if_neg hn] at k5
          rw [decide_eq_false hn, k5]
          simp only [Bool.not_false, if_true, bne_self_eq_false, Bool.false_eq_true, if_false, or_r]
theorem lawOver (s : api_Session) (f : api_Frame) (v : UInt8) (n : UInt64) (_ : wf_api_Session s) (hw : wf_api_Frame f) (_ : True) (_ : True) : braidlaw25_SessionOver s f v n = some true := by
  unfold braidlaw25_SessionOver
  obtain ⟨b, hb, hb2⟩ := great_eq f hw
  rw [alive_eq, hb]
  cases b with
  | true => rfl
  | false =>
    obtain ⟨h, -⟩ := hb2 rfl
    rw [refCheck_eq, rcheck_eq f h]
    cases hs : goodS s with
    | false => rfl
    | true =>
      rw [Over_eq hs]
      by_cases h4 : 4 ≤ s.State.toNat
      · rw [decide_eq_true h4]
        cases hf : goodF f with
        | false => rfl
        | true =>
          have e1 : takeS s f = (s, [], 0) := (take_facts s f hs hf h).2.2.2.2.2 h4
          have e2 : brokenS s = (s, [], 0) := by unfold brokenS; rw [if_pos hs, if_pos h4]
          have e4 : endS s n = (s, [], 0) := by unfold endS; rw [if_pos hs, if_pos h4]
          rw [sTake_eq s f h, sBroken_eq, sJudged_eq, sEnd_eq, e1, e2, e4]
          simp only [bs, if_true, bne_self_eq_false, Bool.false_eq_true, if_false, Bool.not_true]
          by_cases h1 : v < 1
          · rw [decide_eq_true h1]; rfl
          · by_cases h9 : 9 < v
            · rw [decide_eq_false h1, decide_eq_true h9]; rfl
            · have e3 : judgedS s v = (s, [], 0) := by
                have hn : ¬ (v < 1 ∨ 9 < v) := fun hh => hh.elim h1 h9
                unfold judgedS
                rw [if_pos hs, if_neg hn, e2]
                split <;> rfl
              rw [decide_eq_false h1, decide_eq_false h9, e3]
              simp only [bs, Bool.false_eq_true, if_false, beq_self_eq_true, if_true, decide_true, List.length_nil]
              rfl
      · rw [decide_eq_false h4]; rfl
/-! ### faults -/
theorem judged_facts (s : api_Session) (v : UInt8) (hs : goodS s = true) (h1 : ¬ v < 1) (h9 : ¬ 9 < v) :
    (judgedS s v).2.2 = 0 ∧ goodS (judgedS s v).1 = true ∧ braidlaw25_ends s (judgedS s v).1 (judgedS s v).2.1 = some true ∧
      (judgedS s v).1.Faults = s.Faults + (if ¬ 4 ≤ s.State.toNat ∧ (v = 2 ∨ v = 3 ∨ v = 4) then 1 else 0) := by
  have hn : ¬ (v < 1 ∨ 9 < v) := fun hh => hh.elim h1 h9
  have hg := goodS_facts hs
  have hO := Over_eq hs
  unfold judgedS
  rw [if_pos hs, if_neg hn]
  by_cases hv : v = 2 ∨ v = 3 ∨ v = 4
  · rw [if_pos hv]
    unfold brokenS
    rw [if_pos hs]
    by_cases h4 : 4 ≤ s.State.toNat
    · have hc : ¬ (¬ 4 ≤ s.State.toNat ∧ (v = 2 ∨ v = 3 ∨ v = 4)) := fun hh => hh.1 h4
      rw [if_pos h4, if_neg hc]
      exact ⟨rfl, hs, ends_nil s s hO hO (by simp), by simp⟩
    · have hc : (¬ 4 ≤ s.State.toNat ∧ (v = 2 ∨ v = 3 ∨ v = 4)) := ⟨h4, hv⟩
      rw [if_neg h4, if_pos hc]
      rw [decide_eq_false h4] at hO
      by_cases h2 : s.Faults = 2
      · rw [if_pos h2]
        have hgt : goodS { s with Faults := 3, State := 5 } = true := goodS_mk (by
          dsimp only
          refine ⟨by decide, by decide, by omega, by omega, ⟨fun _ => rfl, fun _ => rfl⟩, by omega, by omega, by omega, by omega⟩)
        refine ⟨rfl, hgt, ends_bye s _ 3 hO (by rw [Over_eq hgt]; rfl), ?_⟩
        show (3 : Int) = s.Faults + 1
        omega
      · rw [if_neg h2]
        have hgt : goodS { s with Faults := s.Faults + 1 } = true := goodS_mk (by
          dsimp only
          refine ⟨by omega, by omega, by omega, by omega, ⟨fun _ => by omega, fun _ => by omega⟩, by omega, by omega, by omega, by omega⟩)
        have hOt := Over_eq hgt
        rw [decide_eq_false h4] at hOt
        exact ⟨rfl, hgt, ends_nil s _ hO hOt rfl, rfl⟩
  · have hc : ¬ (¬ 4 ≤ s.State.toNat ∧ (v = 2 ∨ v = 3 ∨ v = 4)) := fun hh => hv hh.2
    rw [if_neg hv, if_neg hc]
    exact ⟨rfl, hs, ends_nil s s hO hO (by simp), by simp⟩
theorem lawFaults (l : List UInt8) (f : api_Frame) (hl : (∀ x ∈ l, True) ∧ l.length ≤ 9223372036854775807) (hw : wf_api_Frame f) : braidlaw25_SessionFaults l f = some true := by
  unfold braidlaw25_SessionFaults
  obtain ⟨b, hb, hb2⟩ := great_eq f hw
  rw [alive_eq, hb]
  by_cases h12 : 12 < l.length
  · have : decide (12 < (l.length : Int)) = true := by simp; omega
    rw [this]; rfl
  have h12' : decide (12 < (l.length : Int)) = false := by simp; omega
  rw [h12']
  cases b with
  | true => rfl
  | false =>
    obtain ⟨h, -⟩ := hb2 rfl
    rw [rcheck_eq f h]
    cases hf : goodF f with
    | false => rfl
    | true =>
      unfold session_New
      simp only [bs, if_true, bne_self_eq_false, Bool.false_eq_true, if_false, Bool.not_true]
      have key : ∃ b, iter (braidlaw25_SessionFaults_L0 l f true) (⟨1, 0, 0, 0⟩, 0, 0) = some b ∧ (b = .inl true ∨ b = .inr ()) := by
        refine iter_inv (F := braidlaw25_SessionFaults_L0 l f true) (fun s => goodS s.1 = true ∧ s.1.Faults = s.2.1 ∧ 0 ≤ s.2.2 ∧ s.2.2 ≤ (l.length : Int)) (fun s => ((l.length : Int) - s.2.2).toNat) (fun b => b = .inl true ∨ b = .inr ()) (fun s hI => ?_) (⟨1, 0, 0, 0⟩, 0, 0) ⟨rfl, rfl, by simp, by simp⟩
        obtain ⟨s, k, i⟩ := s
        obtain ⟨i1, i2, i3, i4⟩ := hI
        simp only at i1 i2 i3 i4
        subst i2
        obtain ⟨i, rfl⟩ : ∃ n : Nat, i = (n : Int) := ⟨i.toNat, by omega⟩
        by_cases hlt : i < l.length
        · have hg := goodS_facts i1
          unfold braidlaw25_SessionFaults_L0
          simp only
          rw [if_pos (by simp; omega)]
          simp only [idx_nat hlt, bs]
          by_cases v1 : l[i] < 1
          · rw [decide_eq_true v1]; exact .inl ⟨_, rfl, .inl rfl⟩
          by_cases v9 : 9 < l[i]
          · rw [decide_eq_false v1, decide_eq_true v9]; exact .inl ⟨_, rfl, .inl rfl⟩
          rw [decide_eq_false v1, decide_eq_false v9]
          obtain ⟨k1, k2, k3, k4⟩ := judged_facts s l[i] i1 v1 v9
          rw [sJudged_eq]
          generalize judgedS s l[i] = r at k1 k2 k3 k4 ⊢
          obtain ⟨t, m, e⟩ := r
          simp only at k1 k2 k3 k4
          subst k1
          simp only [bs, Bool.false_eq_true, if_false, bne_self_eq_false]
          rw [refCheck_eq, k2, k3]
          simp only [bs, Bool.false_eq_true, if_false, if_true, bne_self_eq_false, Bool.not_true]
          rw [Over_eq i1]
          simp only [bs]
          have hcount : (if (!decide (4 ≤ s.State.toNat)) = true then if (l[i] == 2) = true then some (w64 (s.Faults + 1)) else if (l[i] == 3) = true then some (w64 (s.Faults + 1)) else if (l[i] == 4) = true then some (w64 (s.Faults + 1)) else some s.Faults else some s.Faults : Option Int) = some t.Faults := by
            rw [k4, w64_eq (by omega) (by omega)]
            by_cases h4 : 4 ≤ s.State.toNat
            · have hc : ¬ (¬ 4 ≤ s.State.toNat ∧ (l[i] = 2 ∨ l[i] = 3 ∨ l[i] = 4)) := fun hh => hh.1 h4
              rw [decide_eq_true h4, if_neg hc]; simp
            · rw [decide_eq_false h4]
              by_cases e2 : l[i] = 2
              · simp [e2, h4]
              · by_cases e3 : l[i] = 3
                · simp [e3, h4]
                · by_cases e4 : l[i] = 4
                  · simp [e4, h4]
                  · simp [e2, e3, e4]
          rw [hcount]
          simp only [bs, bne_self_eq_false, Bool.false_eq_true, if_false]
          have hgt := goodS_facts k2
          have hban : ((t.State == 5) != (t.Faults == 3)) = false := by
            have e5 : (t.State == 5) = decide (t.State.toNat = 5) := by rw [Bool.eq_iff_iff]; simp [← UInt8.toNat_inj]
            have e3 : (t.Faults == 3) = decide (t.State.toNat = 5) := by
              rw [Bool.eq_iff_iff]; simp [hgt.2.2.2.2.1]
            rw [e5, e3]; simp
          rw [hban, sTake_eq t f h]
          obtain ⟨q1, q2, q3, q4, -, -⟩ := take_facts t f k2 hf h
          generalize takeS t f = r at q1 q2 q3 q4 ⊢
          obtain ⟨u, m2, e2⟩ := r
          simp only at q1 q2 q3 q4
          subst q1
          simp only [bs, bne_self_eq_false, Bool.false_eq_true, if_false]
          rw [q4, q3]
          simp only [bs, bne_self_eq_false, Bool.false_eq_true, if_false, Bool.not_true, w64_nat (show i < 9223372036854775807 by omega)]
          exact .inr ⟨_, rfl, ⟨q2, q3, by simp; omega, by simp; omega⟩, by simp; omega⟩
        · unfold braidlaw25_SessionFaults_L0
          simp only
          rw [if_neg (by simp; omega)]
          exact .inl ⟨_, rfl, .inr rfl⟩
      obtain ⟨b, h1, h2⟩ := key
      rw [h1]
      rcases h2 with e | e <;> rw [e] <;> rfl
/-! ### the examples and limits -/
theorem takeS_bad {s : api_Session} (f : api_Frame) (h : goodS s = false) : takeS s f = (⟨0, 0, 0, 0⟩, [], 8) := by
  unfold takeS
  have hc : ¬ (goodS s = true ∧ goodF f = true) := fun hh => by rw [h] at hh; cases hh.1
  rw [if_neg hc]
theorem brokenS_bad {s : api_Session} (h : goodS s = false) : brokenS s = (⟨0, 0, 0, 0⟩, [], 8) := by
  unfold brokenS; rw [h]; rfl
theorem judgedS_bad {s : api_Session} (v : UInt8) (h : goodS s = false) : judgedS s v = (⟨0, 0, 0, 0⟩, [], 8) := by
  unfold judgedS; rw [h]; rfl
theorem endS_bad {s : api_Session} (n : UInt64) (h : goodS s = false) : endS s n = (⟨0, 0, 0, 0⟩, [], 8) := by
  unfold endS; rw [h]; rfl
abbrev badL : List api_Session := [⟨0, 0, 0, 0⟩, ⟨6, 0, 0, 0⟩, ⟨1, 3, 0, 0⟩, ⟨5, 2, 0, 0⟩, ⟨3, (-1), 0, 0⟩, ⟨4, 0, (-1), 0⟩, ⟨4, 0, 0, 1000000001⟩]
theorem names_L0 : iter braidlaw25_SessionNames_L0 0 = some (.inr ()) := by
  refine iter_run (F := braidlaw25_SessionNames_L0) badL.length (fun i => (i : Int)) (fun i hi => ?_) ?_
  · have hbad : ∀ i : Fin 7, goodS (badL[i.val]'i.isLt) = false := by decide
    have hb := hbad ⟨i, hi⟩
    unfold braidlaw25_SessionNames_L0 braidlaw25_hello
    have hi7 : i < 7 := hi
    rw [if_pos (by simp only [decide_eq_true_eq]; exact Int.ofNat_lt.2 hi)]
    simp only [idx_nat hi, bs]
    simp only at hb
    rw [sTake_eq _ _ (okF_nil 1 1), sBroken_eq, sJudged_eq, sEnd_eq, sCheck_eq, takeS_bad _ hb, brokenS_bad hb, judgedS_bad _ hb, endS_bad _ hb, hb]
    simp only [bs, Bool.false_eq_true, if_false, bne_self_eq_false, w64_nat (show i < 9223372036854775807 by omega)]
  · unfold braidlaw25_SessionNames_L0
    rw [if_neg (by simp)]
set_option maxRecDepth 20000 in
theorem lawNames : braidlaw25_SessionNames = some true := by
  have t1 : takeS ⟨3, 2, 1000000000, 1000000000⟩ ⟨0, 0, [], []⟩ = (⟨0, 0, 0, 0⟩, [], 8) := by decide +kernel
  have j1 : judgedS ⟨3, 2, 1000000000, 1000000000⟩ 0 = (⟨0, 0, 0, 0⟩, [], 2) := by decide +kernel
  have j2 : judgedS ⟨3, 2, 1000000000, 1000000000⟩ 10 = (⟨0, 0, 0, 0⟩, [], 2) := by decide +kernel
  have n1 : session_Next 0 1 = some (0, 2) := rfl
  have n2 : session_Next 6 1 = some (0, 2) := rfl
  have n3 : session_Next 1 0 = some (0, 2) := rfl
  have n4 : session_Next 1 7 = some (0, 2) := rfl
  have o2 : okF ⟨5, 0, [], [[1], [2]]⟩ := ⟨by simp, by simp, by simp⟩
  have t2 : takeS ⟨3, 2, 1000000000, 1000000000⟩ ⟨5, 0, [], [[1], [2]]⟩ = (⟨3, 2, 1000000000, 1000000000⟩, [⟨5, ⟨5, 0, [], [[1], [2]]⟩⟩], 0) := by decide +kernel
  have t3 : takeS ⟨1, 0, 0, 0⟩ ⟨1, 2, [], []⟩ = (⟨4, 0, 1, 0⟩, [⟨1, ⟨6, 1, [], []⟩⟩, ⟨6, ⟨0, 0, [], []⟩⟩], 0) := by decide +kernel
  have t4 : takeS ⟨1, 0, 0, 0⟩ ⟨6, 9, [], []⟩ = (⟨4, 0, 1, 0⟩, [⟨6, ⟨0, 0, [], []⟩⟩], 0) := by decide +kernel
  have e1 : endS ⟨3, 2, 1000000000, 1000000000⟩ 7 = (⟨4, 2, 1000000000, 1000000000⟩, [⟨1, ⟨6, 7, [], []⟩⟩, ⟨6, ⟨0, 0, [], []⟩⟩], 0) := by decide +kernel
  have t5 : takeS ⟨4, 2, 1000000000, 1000000000⟩ ⟨1, 1, [], []⟩ = (⟨4, 2, 1000000000, 1000000000⟩, [], 0) := by decide +kernel
  unfold braidlaw25_SessionNames
  rw [names_L0, alive_eq]
  simp only [or_r, bs]
  rw [sTake_eq _ _ (okF_nil 0 0), t1, sJudged_eq, j1, n1, n2, n3, n4, sTake_eq _ _ o2, t2]
  unfold session_New braidlaw25_hello
  simp only [bs]
  rw [sJudged_eq, j2, sTake_eq _ _ (okF_nil 1 2), t3, sTake_eq _ _ (okF_nil 6 9), t4, sEnd_eq, e1]
  simp only [bs]
  rw [sTake_eq _ _ (okF_nil 1 1), t5]
  rfl
end Go.Proofs.Ytklfgpdfongaeaa
