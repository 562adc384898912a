/- Sessions, plain laws that several statements need: Check, Broken, Judged, End, Next, Same. -/
import Derived.Test.YtklfgpdfongaeaaPure
import Derived.Test.YtklfgpdfongaeaaKW
import Derived.Test.YtklfgpdfongaeaaE3
namespace Go.Proofs.Ytklfgpdfongaeaa
open Go
set_option linter.unusedSimpArgs false
set_option linter.unusedVariables false

def goodS (s : api_Session) : Bool := !(decide (s.State < 1) || decide (5 < s.State) || decide (s.Faults < 0) || decide (3 < s.Faults) || (decide (s.Faults = 3) != (s.State == 5)) || decide (s.Frames < 0) || decide (1000000000 < s.Frames) || decide (s.Ops < 0) || decide (1000000000 < s.Ops))
theorem refCheck_eq (s : api_Session) : braidref25_Check s = some (if goodS s then 0 else 8) := by
  unfold braidref25_Check goodS
  have e : (s.Faults == 3) = decide (s.Faults = 3) := by rw [Bool.eq_iff_iff]; simp
  rw [e]
  cases decide (s.State < 1) <;> cases decide (5 < s.State) <;> cases decide (s.Faults < 0) <;> cases decide (3 < s.Faults) <;> cases (decide (s.Faults = 3) != (s.State == 5)) <;> cases decide (s.Frames < 0) <;> cases decide (1000000000 < s.Frames) <;> cases decide (s.Ops < 0) <;> cases decide (1000000000 < s.Ops) <;> rfl
theorem sCheck_eq (s : api_Session) : session_Check s = some (if goodS s then 0 else 8) := by
  have c1 : ∀ n, session_Check_1 n = some (decide (0 ≤ n ∧ n ≤ 1000000000)) := fun n => by
    unfold session_Check_1
    by_cases h : 0 ≤ n <;> simp [h]
  have e1 : ∀ n : Int, decide (0 ≤ n ∧ n ≤ 1000000000) = !(decide (n < 0) || decide (1000000000 < n)) := fun n => by rw [Bool.eq_iff_iff]; simp
  unfold session_Check goodS
  simp only [c1, bs, e1]
  cases decide (s.State < 1)
  case true => simp
  cases decide (5 < s.State)
  case true => simp
  by_cases h0 : s.Faults < 0
  · simp [h0]
  by_cases h3 : 3 < s.Faults
  · have h4 : 3 ≤ s.Faults := by omega
    have h5 : s.Faults ≠ 3 := by omega
    cases (s.State == 5) <;> simp [h0, h3, h4, h5]
  have key : ∀ b : Bool, (if !b then
          (if decide (3 ≤ s.Faults) then some true else if b then some true else
              if !!(decide (s.Frames < 0) || decide (1000000000 < s.Frames)) then some true else some (!!(decide (s.Ops < 0) || decide (1000000000 < s.Ops))))
        else (if s.Faults != 3 then some true else
              if !!(decide (s.Frames < 0) || decide (1000000000 < s.Frames)) then some true else some (!!(decide (s.Ops < 0) || decide (1000000000 < s.Ops)))) : Option Bool) = some ((decide (s.Faults = 3) != b) || decide (s.Frames < 0) || decide (1000000000 < s.Frames) || decide (s.Ops < 0) || decide (1000000000 < s.Ops)) := fun b => by
    by_cases h4 : s.Faults = 3
    · have h5 : 3 ≤ s.Faults := by omega
      rw [h4]
      cases b <;> cases decide (s.Frames < 0) <;> cases decide (1000000000 < s.Frames) <;> cases decide (s.Ops < 0) <;> cases decide (1000000000 < s.Ops) <;> rfl
    · have h5 : ¬ 3 ≤ s.Faults := by omega
      have h6 : (s.Faults != 3) = true := by simpa using h4
      rw [h6, decide_eq_false h5, decide_eq_false h4]
      cases b <;> cases decide (s.Frames < 0) <;> cases decide (1000000000 < s.Frames) <;> cases decide (s.Ops < 0) <;> cases decide (1000000000 < s.Ops) <;> rfl
  have := key (s.State == 5)
  rw [decide_eq_false h0, decide_eq_false h3]
  cases hb : (s.State == 5)
  · rw [hb] at this
    simp only [Bool.not_false, if_true, Bool.false_eq_true, if_false] at this ⊢
    rw [this]; simp only [bs, Bool.false_or]
    cases ((decide (s.Faults = 3) != false) || decide (s.Frames < 0) || decide (1000000000 < s.Frames) || decide (s.Ops < 0) || decide (1000000000 < s.Ops)) <;> rfl
  · rw [hb] at this
    simp only [Bool.not_true, if_true, Bool.false_eq_true, if_false] at this ⊢
    rw [this]; simp only [bs, Bool.false_or]
    cases ((decide (s.Faults = 3) != true) || decide (s.Frames < 0) || decide (1000000000 < s.Frames) || decide (s.Ops < 0) || decide (1000000000 < s.Ops)) <;> rfl
theorem goodS_facts {s : api_Session} (h : goodS s = true) : 1 ≤ s.State.toNat ∧ s.State.toNat ≤ 5 ∧ 0 ≤ s.Faults ∧ s.Faults ≤ 3 ∧ (s.Faults = 3 ↔ s.State.toNat = 5) ∧ 0 ≤ s.Frames ∧ s.Frames ≤ 1000000000 ∧ 0 ≤ s.Ops ∧ s.Ops ≤ 1000000000 := by
  have e5 : (s.State == 5) = decide (s.State.toNat = 5) := by rw [Bool.eq_iff_iff]; simp [← UInt8.toNat_inj]
  unfold goodS at h
  rw [e5] at h
  simp [UInt8.lt_iff_toNat_lt, UInt8.le_iff_toNat_le] at h
  omega
theorem over_eq {s : api_Session} : session_over s = some (decide (4 ≤ s.State.toNat)) := by
  unfold session_over
  simp only [bs, UInt8.le_iff_toNat_le]; rfl
theorem Over_eq {s : api_Session} (h : goodS s = true) : braidref25_Over s = some (decide (4 ≤ s.State.toNat)) := by
  unfold braidref25_Over
  have h1 := goodS_facts h
  have e4 : (s.State == 4) = decide (s.State.toNat = 4) := by rw [Bool.eq_iff_iff]; simp [← UInt8.toNat_inj]
  have e5 : (s.State == 5) = decide (s.State.toNat = 5) := by rw [Bool.eq_iff_iff]; simp [← UInt8.toNat_inj]
  rw [e4, e5]
  by_cases h4 : s.State.toNat = 4
  · simp [h4]
  · by_cases h5 : s.State.toNat = 5
    · simp [h5]
    · have : ¬ 4 ≤ s.State.toNat := by omega
      simp [h4, h5, this]
theorem Broken_eq (s : api_Session) : session_Broken s = braidref25_Broken s := by
  unfold session_Broken braidref25_Broken
  rw [sCheck_eq, refCheck_eq]
  cases h : goodS s
  · rfl
  simp only [if_true, bs]
  rw [over_eq, Over_eq h]
  simp only [bs]
  by_cases h4 : 4 ≤ s.State.toNat
  · rw [decide_eq_true h4]; rfl
  rw [decide_eq_false h4]
  have hf := goodS_facts h
  simp only [w64_eq (show -9223372036854775808 ≤ s.Faults + 1 by omega) (by omega)]
  by_cases h2 : s.Faults + 1 = 3
  · simp [h2, session_bye, braidref25_bye]
  · have h3 : s.Faults + 1 < 3 := by omega
    simp [h2, h3]
theorem Judged_eq (s : api_Session) (v : UInt8) : session_Judged s v = braidref25_Judged s v := by
  unfold session_Judged braidref25_Judged braidref25_Fault
  rw [sCheck_eq, refCheck_eq, Broken_eq]
  cases h : goodS s
  · rfl
  simp only [if_true, bs]
  cases decide (v < 1) <;> cases decide (9 < v) <;> cases (v == 2) <;> cases (v == 3) <;> cases (v == 4) <;> rfl
theorem End_eq (s : api_Session) (r : UInt64) : session_End s r = braidref25_End s r := by
  unfold session_End braidref25_End
  rw [sCheck_eq, refCheck_eq]
  cases h : goodS s
  · rfl
  simp only [if_true, bs]
  rw [over_eq, Over_eq h]
  simp only [bs]
  cases decide (4 ≤ s.State.toNat) <;> rfl
/-! ### the comparison of what is to be done -/
def okD (d : api_Doing) : Prop := d.Frame.IDs.length ≤ 9223372036854775807 ∧ d.Frame.Ops.length ≤ 9223372036854775807
def okL (l : List api_Doing) : Prop := l.length ≤ 9223372036854775807 ∧ ∀ d ∈ l, okD d
theorem sameFrame_refl (f : api_Frame) (h1 : f.IDs.length ≤ 9223372036854775807) (h2 : f.Ops.length ≤ 9223372036854775807) : braidref25_SameFrame f f = some true := by
  unfold braidref25_SameFrame
  simp only [bne_self_eq_false, Bool.false_eq_true, if_false, bs]
  have e1 : iter (braidref25_SameFrame_L0 f f) 0 = some (.inr ()) := by
    refine iter_run f.IDs.length (fun k => (k : Int)) (fun i hi => ?_) ?_
    · unfold braidref25_SameFrame_L0
      rw [if_pos (by simp <;> omega)]
      simp only [idx_nat hi, bs, w64_nat (show i < 9223372036854775807 by omega)]
      simp
    · unfold braidref25_SameFrame_L0
      rw [if_neg (by simp)]
  have e2 : iter (braidref25_SameFrame_L2 f f) 0 = some (.inr ()) := by
    refine iter_run f.Ops.length (fun k => (k : Int)) (fun i hi => ?_) ?_
    · unfold braidref25_SameFrame_L2
      rw [if_pos (by simp <;> omega)]
      simp only [idx_nat hi, bs, w64_nat (show i < 9223372036854775807 by omega)]
      simp
    · unfold braidref25_SameFrame_L2
      rw [if_neg (by simp)]
  rw [e1, or_r, e2, or_r]
theorem same_refl25 (l : List api_Doing) (h : okL l) : braidref25_Same l l = some true := by
  unfold braidref25_Same
  simp only [bne_self_eq_false, Bool.false_eq_true, if_false]
  have e1 : iter (braidref25_Same_L0 l l) 0 = some (.inr ()) := by
    refine iter_run l.length (fun k => (k : Int)) (fun i hi => ?_) ?_
    · unfold braidref25_Same_L0
      have hd := h.2 l[i] (List.getElem_mem _)
      have := h.1
      rw [if_pos (by simp <;> omega)]
      simp only [idx_nat hi, bs, w64_nat (show i < 9223372036854775807 by omega), bne_self_eq_false, Bool.false_eq_true, if_false, sameFrame_refl _ hd.1 hd.2, Bool.not_true]
    · unfold braidref25_Same_L0
      rw [if_neg (by simp)]
  rw [e1, or_r]
theorem okL_nil : okL [] := ⟨by simp, by simp⟩
theorem okL_bye (n : UInt64) : okL [(⟨1, (⟨6, n, [], []⟩ : api_Frame)⟩ : api_Doing), (⟨6, (⟨0, 0, [], []⟩ : api_Frame)⟩ : api_Doing)] := ⟨by simp, by intro d hd; simp at hd; rcases hd with rfl | rfl <;> exact ⟨by simp, by simp⟩⟩
theorem Broken_ok (s : api_Session) : ∃ r, braidref25_Broken s = some r ∧ okL r.2.1 := by
  unfold braidref25_Broken
  rw [refCheck_eq]
  cases h : goodS s
  · exact ⟨_, rfl, okL_nil⟩
  simp only [if_true, bs]
  rw [Over_eq h]
  simp only [bs]
  cases decide (4 ≤ s.State.toNat)
  · simp only [Bool.false_eq_true, if_false]
    generalize decide (_ < (3 : Int)) = b
    cases b
    · exact ⟨_, rfl, okL_bye 3⟩
    · exact ⟨_, rfl, okL_nil⟩
  · exact ⟨_, rfl, okL_nil⟩
theorem Judged_ok (s : api_Session) (v : UInt8) : ∃ r, braidref25_Judged s v = some r ∧ okL r.2.1 := by
  unfold braidref25_Judged braidref25_Fault
  obtain ⟨r, hr, hl⟩ := Broken_ok s
  rw [refCheck_eq, hr]
  cases h : goodS s
  · exact ⟨_, rfl, okL_nil⟩
  simp only [if_true, bs]
  cases decide (v < 1) <;> cases decide (9 < v) <;> cases (v == 2) <;> cases (v == 3) <;> cases (v == 4) <;> first | exact ⟨_, rfl, okL_nil⟩ | exact ⟨_, rfl, hl⟩
theorem End_ok (s : api_Session) (n : UInt64) : ∃ r, braidref25_End s n = some r ∧ okL r.2.1 := by
  unfold braidref25_End
  rw [refCheck_eq]
  cases h : goodS s
  · exact ⟨_, rfl, okL_nil⟩
  simp only [if_true, bs]
  rw [Over_eq h]
  simp only [bs]
  cases decide (4 ≤ s.State.toNat)
  · exact ⟨_, rfl, okL_bye n⟩
  · exact ⟨_, rfl, okL_nil⟩
/-! ### the table -/
abbrev rulesL : List session_rule := [⟨1, 1, 2, 1⟩, ⟨1, 6, 4, 6⟩, ⟨2, 2, 3, 3⟩, ⟨2, 6, 4, 6⟩, ⟨3, 2, 3, 3⟩, ⟨3, 3, 3, 4⟩, ⟨3, 4, 3, 3⟩, ⟨3, 5, 3, 5⟩, ⟨3, 6, 4, 6⟩]
theorem find1_eq (r : session_rule) (a b : UInt8) : session_find_1 r a b = some (r.state == a && r.kind == b) := by
  unfold session_find_1
  cases (r.state == a) <;> rfl
theorem index_eq (l : List session_rule) (a b : UInt8) (hl : l.length ≤ 9223372036854775807) : ∀ (rest pre : List session_rule), l = pre ++ rest →
    iter (slices_IndexFunc_session_rule_session_rule_session_find_1_L0 l a b) (pre.length : Int) = some (match rest.findIdx? (fun r => r.state == a && r.kind == b) with | some i => .inl ((pre.length + i : Nat) : Int) | none => .inr ())
  | [], pre, e => by
    refine iter_l ?_
    subst e
    unfold slices_IndexFunc_session_rule_session_rule_session_find_1_L0
    simp
  | r :: rest, pre, e => by
    have hlen : pre.length < l.length := by rw [e]; simp
    have hget : l[pre.length]'hlen = r := by subst e; simp
    have hF : slices_IndexFunc_session_rule_session_rule_session_find_1_L0 l a b (pre.length : Int) = if (r.state == a && r.kind == b) then some (.inl (.inl (pre.length : Int))) else some (.inr ((pre.length + 1 : Nat) : Int)) := by
      unfold slices_IndexFunc_session_rule_session_rule_session_find_1_L0
      rw [if_pos (by simp <;> omega)]
      simp only [idx_nat hlen, hget, bs, find1_eq, w64_nat (show pre.length < 9223372036854775807 by omega)]
    rw [List.findIdx?_cons]
    cases hg : (r.state == a && r.kind == b) with
    | true => rw [hg] at hF; rw [iter_l hF]; simp
    | false =>
      rw [hg] at hF
      rw [iter_r hF]
      have ih := index_eq l a b hl rest (pre ++ [r]) (by simp [e])
      simp only [List.length_append, List.length_cons, List.length_nil, Nat.zero_add] at ih
      rw [ih]
      cases List.findIdx? (fun r => r.state == a && r.kind == b) rest <;> simp <;> omega
/-- the row for a state and a kind -/
def rowOf (a b : UInt8) : Option session_rule := rulesL.find? fun r => r.state == a && r.kind == b
theorem find_eq (a b : UInt8) : session_find a b = some (match rowOf a b with | some r => (r, true) | none => (⟨0, 0, 0, 0⟩, false)) := by
  have h := index_eq rulesL a b (by simp) rulesL [] rfl
  unfold session_find session_rules slices_IndexFunc_session_rule_session_rule_session_find_1
  simp only [bs]
  rw [show (0 : Int) = (([] : List session_rule).length : Int) from rfl, h]
  unfold rowOf
  rw [List.find?_eq_bind_findIdx?_getElem?]
  cases hi : rulesL.findIdx? (fun r => r.state == a && r.kind == b) with
  | none => rfl
  | some i =>
    have hlt : i < rulesL.length := (List.findIdx?_eq_some_iff_findIdx_eq.1 hi).1
    simp only [List.length_nil, Nat.zero_add, or_l, bs]
    rw [if_neg (by simp), idx_nat hlt]
    simp [List.getElem?_eq_getElem hlt]
theorem sNext_eq (a b : UInt8) : session_Next a b = braidref25_Next a b := by
  unfold session_Next braidref25_Next
  generalize hs : ((if decide (a < 1) then some true else if decide (5 < a) then some true else if decide (b < 1) then some true else some (decide (6 < b))) : Option Bool) = s1
  cases s1 with
  | none => rfl
  | some t =>
    cases t with
    | true => rfl
    | false =>
      simp only [bs, Bool.false_eq_true, if_false]
      have ha : ¬ a < 1 := fun h => by rw [decide_eq_true h] at hs; simp at hs
      rw [decide_eq_false ha] at hs
      simp only [Bool.false_eq_true, if_false] at hs
      have ha' : ¬ 5 < a := fun h => by rw [decide_eq_true h] at hs; simp at hs
      rw [decide_eq_false ha'] at hs
      simp only [Bool.false_eq_true, if_false] at hs
      have hb : ¬ b < 1 := fun h => by rw [decide_eq_true h] at hs; simp at hs
      rw [decide_eq_false hb] at hs
      simp only [Bool.false_eq_true, if_false, Option.some.injEq, decide_eq_false_iff_not] at hs
      rw [find_eq]
      have k : ∀ (i : Fin 6) (j : Fin 7), 1 ≤ i.val → 1 ≤ j.val → (match rowOf (UInt8.ofNat i.val) (UInt8.ofNat j.val) with | some r => r.next | none => max (UInt8.ofNat i.val) 4) = ((braidref25_State (UInt8.ofNat i.val) (UInt8.ofNat j.val)).getD (0, 0)).1 ∧ (braidref25_State (UInt8.ofNat i.val) (UInt8.ofNat j.val)).isSome = true := by decide
      simp only [UInt8.lt_iff_toNat_lt] at ha ha' hb hs
      have h1 : (1 : UInt8).toNat = 1 := rfl
      have h5 : (5 : UInt8).toNat = 5 := rfl
      have h6 : (6 : UInt8).toNat = 6 := rfl
      have := k ⟨a.toNat, by omega⟩ ⟨b.toNat, by omega⟩ (by show 1 ≤ a.toNat; omega) (by show 1 ≤ b.toNat; omega)
      simp only [UInt8.ofNat_toNat] at this
      obtain ⟨k1, k2⟩ := this
      obtain ⟨r, hr⟩ := Option.isSome_iff_exists.1 k2
      rw [hr] at k1 ⊢
      simp only [Option.getD_some] at k1
      rw [bs, bs, ← k1]
      cases rowOf a b <;> rfl
theorem State_ok (a b : UInt8) : ∃ r, braidref25_State a b = some r := by
  unfold braidref25_State
  cases (a == 4) <;> cases (a == 5) <;> (try exact ⟨_, rfl⟩)
  cases (b == 6) <;> (try exact ⟨_, rfl⟩)
  cases (a == 1) <;> cases (b == 1) <;> (try exact ⟨_, rfl⟩)
  cases (b == 2) <;> (try exact ⟨_, rfl⟩)
  cases (a == 2) <;> (try exact ⟨_, rfl⟩)
  cases (b == 3) <;> (try exact ⟨_, rfl⟩)
  cases (b == 4) <;> exact ⟨_, rfl⟩
theorem sNext_ok (a b : UInt8) : ∃ r, braidref25_Next a b = some r := by
  unfold braidref25_Next
  obtain ⟨r, hr⟩ := State_ok a b
  rw [hr]
  cases decide (a < 1) <;> cases decide (5 < a) <;> cases decide (b < 1) <;> cases decide (6 < b) <;> exact ⟨_, rfl⟩
theorem ends (s : api_Session) (v : UInt8) (n : UInt64) (a b : UInt8) (_ : wf_api_Session s) (_ : True) (_ : True) (_ : True) (_ : True) : braidlaw25_SessionEnds s v n a b = some true := by
  unfold braidlaw25_SessionEnds
  obtain ⟨r1, h1, l1⟩ := Broken_ok s
  obtain ⟨r2, h2, l2⟩ := Judged_ok s v
  obtain ⟨r3, h3, l3⟩ := End_ok s n
  obtain ⟨r4, h4⟩ := sNext_ok a b
  rw [Broken_eq, Judged_eq, End_eq, sNext_eq, h1, h2, h3, h4]
  unfold session_New
  simp only [bs, decide_true, if_true, same_refl25 _ l1, same_refl25 _ l2, same_refl25 _ l3, beq_self_eq_true]
end Go.Proofs.Ytklfgpdfongaeaa
