/- Sessions: the reference's check of a frame; Take. Plain. -/
import Derived.Test.YtklfgpdfongaeaaPFrm
namespace Go.Proofs.Ytklfgpdfongaeaa
open Go
set_option linter.unusedSimpArgs false
set_option linter.unusedVariables false
theorem pos0 {α : Type} (l : List α) : decide (0 < (l.length : Int)) = !decide (l = []) := by
  cases l <;> simp
theorem encF_short {f : api_Frame} (h : goodF f = true) : (encF f).length ≤ 2000 := by
  rcases kinds f.Kind with k | k | k | k
  · rw [goodF_l k] at h
    simp only [Bool.and_eq_true, decide_eq_true_eq] at h
    obtain ⟨⟨⟨g1, g2⟩, g3⟩, g4⟩ := h
    have hn := numBytes_len f.IDs.length (by omega)
    have hd := idsL_len f.IDs
    rw [encF_l k]; simp; omega
  · rw [goodF_5 k] at h
    simp only [Bool.and_eq_true, decide_eq_true_eq] at h
    rw [encF_5 k]; simp; omega
  · have hn := numBytes_len f.N.toNat (UInt64.toNat_lt _)
    rw [encF_n k]; simp; omega
  · obtain ⟨h1, h2, h3⟩ := k
    unfold goodF at h; rw [if_neg h1, if_neg h2, if_neg h3] at h; cases h
theorem check_all (f : api_Frame) (h : okF f) : iter (braidref07_Check_L0 f) 0 = some (if f.Ops.all short then .inr () else .inl 8) := by
  simpa using check_L0 f h f.Ops [] rfl
set_option maxRecDepth 20000 in
theorem rcheck_eq (f : api_Frame) (h : okF f) : braidref07_Check f = some (if goodF f then 0 else 8) := by
  have h' := h
  obtain ⟨h1, h2, h3⟩ := h
  rcases kinds f.Kind with k | k | k | k
  · have e1 : decide (f.Kind < 1) = false := by rcases k with e | e | e <;> rw [e] <;> rfl
    have e6 : decide (6 < f.Kind) = false := by rcases k with e | e | e <;> rw [e] <;> rfl
    have k1 : (f.Kind == 1) = false := by rcases k with e | e | e <;> rw [e] <;> rfl
    have k6 : (f.Kind == 6) = false := by rcases k with e | e | e <;> rw [e] <;> rfl
    have k5 : (f.Kind != 5) = true := by rcases k with e | e | e <;> rw [e] <;> rfl
    have hB := Bytes_eq f h' (by rcases k with e | e | e <;> rw [e] <;> decide) (by rcases k with e | e | e <;> rw [e] <;> decide)
    unfold braidref07_Check
    rw [e1, e6, k1, k6, k5, Listed_eq, decide_eq_true k, Rising_eq _ (by omega), check_all f h', hB, pos0 f.IDs, pos0 f.Ops, goodF_l k]
    simp only [bs, Bool.false_eq_true, if_false, if_true, Bool.not_false, Bool.not_true]
    by_cases hN : f.N = 0
    · have hN' : (f.N != 0) = false := by simpa using hN
      rw [hN', decide_eq_true hN]
      by_cases hO : f.Ops = []
      · rw [decide_eq_true hO]
        simp only [Bool.not_true, Bool.false_eq_true, if_false, or_r, Bool.true_and]
        by_cases hI : f.IDs.length ≤ 40
        · have hI' : decide (40 < (f.IDs.length : Int)) = false := by simp; omega
          rw [hI', decide_eq_true hI]
          cases hi : incr f.IDs with
          | false => simp [bs]
          | true =>
            have hg : goodF f = true := by rw [goodF_l k, decide_eq_true hN, decide_eq_true hO, decide_eq_true hI, hi]; rfl
            have := encF_short hg
            simp [bs, hO, or_r]; omega
        · have hI' : decide (40 < (f.IDs.length : Int)) = true := by simp; omega
          rw [hI', decide_eq_false hI]; simp [bs]
      · rw [decide_eq_false hO]; simp [or_l]
    · have hN' : (f.N != 0) = true := by simpa using hN
      rw [hN', decide_eq_false hN]; simp [or_l]
  · have e1 : decide (f.Kind < 1) = false := by rw [k]; rfl
    have e6 : decide (6 < f.Kind) = false := by rw [k]; rfl
    have k1 : (f.Kind == 1) = false := by rw [k]; rfl
    have k6 : (f.Kind == 6) = false := by rw [k]; rfl
    have k5 : (f.Kind != 5) = false := by rw [k]; rfl
    have hB := Bytes_eq f h' (by rw [k]; decide) (by rw [k]; decide)
    have hL : ¬ (f.Kind = 2 ∨ f.Kind = 3 ∨ f.Kind = 4) := by rw [k]; decide
    unfold braidref07_Check
    rw [e1, e6, k1, k6, k5, Listed_eq, decide_eq_false hL, Rising_eq _ (by omega), check_all f h', hB, pos0 f.IDs, pos0 f.Ops, goodF_5 k]
    simp only [bs, Bool.false_eq_true, if_false, if_true, Bool.not_false, Bool.not_true]
    by_cases hN : f.N = 0
    · have hN' : (f.N != 0) = false := by simpa using hN
      rw [hN', decide_eq_true hN]
      by_cases hI : f.IDs = []
      · rw [decide_eq_true hI]
        simp only [Bool.not_true, Bool.false_eq_true, if_false, or_r, Bool.true_and]
        by_cases hO : f.Ops.length ≤ 8
        · have hO' : decide (8 < (f.Ops.length : Int)) = false := by simp; omega
          rw [hO', decide_eq_true hO]
          cases hs : f.Ops.all short with
          | false => simp [hI, incr, bs, or_l]
          | true =>
            have hl : (encF f).length = 1 + (numBytes f.Ops.length).length + (opsL f.Ops).length := by rw [encF_5 k]; simp; omega
            by_cases hz : (encF f).length ≤ 2000
            · have : ¬ 2000 < ((encF f).length : Int) := by omega
              rw [← hl]; simp [hI, incr, bs, or_r, this, hz]
            · have : 2000 < ((encF f).length : Int) := by omega
              rw [← hl]; simp [hI, incr, bs, or_r, this, hz]
        · have hO' : decide (8 < (f.Ops.length : Int)) = true := by simp; omega
          rw [hO', decide_eq_false hO]; simp [hI, incr, bs]
      · rw [decide_eq_false hI]; simp [or_l]
    · have hN' : (f.N != 0) = true := by simpa using hN
      rw [hN', decide_eq_false hN]; simp [or_l]
  · have e1 : decide (f.Kind < 1) = false := by rcases k with e | e <;> rw [e] <;> rfl
    have e6 : decide (6 < f.Kind) = false := by rcases k with e | e <;> rw [e] <;> rfl
    have k1 : (if (f.Kind == 1) = true then some true else some (f.Kind == 6) : Option Bool) = some true := by rcases k with e | e <;> rw [e] <;> rfl
    have k5 : (f.Kind != 5) = true := by rcases k with e | e <;> rw [e] <;> rfl
    have hB := Bytes_eq f h' (by rcases k with e | e <;> rw [e] <;> decide) (by rcases k with e | e <;> rw [e] <;> decide)
    have hL : ¬ (f.Kind = 2 ∨ f.Kind = 3 ∨ f.Kind = 4) := by rcases k with e | e <;> rw [e] <;> decide
    unfold braidref07_Check
    rw [e1, e6, k1, k5, Listed_eq, decide_eq_false hL, Rising_eq _ (by omega), check_all f h', hB, pos0 f.IDs, pos0 f.Ops, goodF_n k]
    simp only [bs, Bool.false_eq_true, if_false, if_true, Bool.not_false, Bool.not_true]
    by_cases hI : f.IDs = []
    · by_cases hO : f.Ops = []
      · have hg : goodF f = true := by rw [goodF_n k, decide_eq_true hI, decide_eq_true hO]; rfl
        have := encF_short hg
        simp [hI, hO, incr, bs, or_r]; omega
      · rw [decide_eq_true hI, decide_eq_false hO]; simp [or_l]
    · rw [decide_eq_false hI]; simp [or_l]
  · have hg : goodF f = false := by obtain ⟨h1, h2, h3⟩ := k; unfold goodF; rw [if_neg h1, if_neg h2, if_neg h3]
    rw [hg]
    have key : ∀ i : Fin 256, (¬ (UInt8.ofNat i.val = 2 ∨ UInt8.ofNat i.val = 3 ∨ UInt8.ofNat i.val = 4) ∧ UInt8.ofNat i.val ≠ 5 ∧ ¬ (UInt8.ofNat i.val = 1 ∨ UInt8.ofNat i.val = 6)) → decide (UInt8.ofNat i.val < 1) = true ∨ decide (6 < UInt8.ofNat i.val) = true := by decide +kernel
    have := key ⟨f.Kind.toNat, UInt8.toNat_lt f.Kind⟩ (by simpa using k)
    simp only [UInt8.ofNat_toNat] at this
    unfold braidref07_Check
    rcases this with e | e
    · rw [e]; rfl
    · rw [e]; cases decide (f.Kind < 1) <;> rfl
def goodS (s : api_Session) : Bool := !(decide (s.State < 1) || decide (5 < s.State) || decide (s.Faults < 0) || decide (3 < s.Faults) || (decide (s.Faults = 3) != (s.State == 5)) || decide (s.Frames < 0) || decide (1000000000 < s.Frames) || decide (s.Ops < 0) || decide (1000000000 < s.Ops))
theorem refCheck_eq (s : api_Session) : braidref25_Check s = some (if goodS s then 0 else 8) := by
  unfold braidref25_Check goodS
  have e : (s.Faults == 3) = decide (s.Faults = 3) := by rw [Bool.eq_iff_iff]; simp
  rw [e]
  cases decide (s.State < 1) <;> cases decide (5 < s.State) <;> cases decide (s.Faults < 0) <;> cases decide (3 < s.Faults) <;> cases (decide (s.Faults = 3) != (s.State == 5)) <;> cases decide (s.Frames < 0) <;> cases decide (1000000000 < s.Frames) <;> cases decide (s.Ops < 0) <;> cases decide (1000000000 < s.Ops) <;> rfl
theorem sCheck_eq (s : api_Session) : session_Check s = some (if goodS s then 0 else 8) := by
  have c1 : ∀ n, session_Check_1 n = some (decide (0 ≤ n ∧ n ≤ 1000000000)) := fun n => by
    unfold session_Check_1
    by_cases h : 0 ≤ n <;> simp [h]
  have e1 : ∀ n : Int, decide (0 ≤ n ∧ n ≤ 1000000000) = !(decide (n < 0) || decide (1000000000 < n)) := fun n => by rw [Bool.eq_iff_iff]; simp
  unfold session_Check goodS
  simp only [c1, bs, e1]
  cases decide (s.State < 1)
  case true => simp
  cases decide (5 < s.State)
  case true => simp
  by_cases h0 : s.Faults < 0
  · simp [h0]
  by_cases h3 : 3 < s.Faults
  · have h4 : 3 ≤ s.Faults := by omega
    have h5 : s.Faults ≠ 3 := by omega
    cases (s.State == 5) <;> simp [h0, h3, h4, h5]
  have key : ∀ b : Bool, (if !b then
          (if decide (3 ≤ s.Faults) then some true else if b then some true else
              if !!(decide (s.Frames < 0) || decide (1000000000 < s.Frames)) then some true else some (!!(decide (s.Ops < 0) || decide (1000000000 < s.Ops))))
        else (if s.Faults != 3 then some true else
              if !!(decide (s.Frames < 0) || decide (1000000000 < s.Frames)) then some true else some (!!(decide (s.Ops < 0) || decide (1000000000 < s.Ops)))) : Option Bool) = some ((decide (s.Faults = 3) != b) || decide (s.Frames < 0) || decide (1000000000 < s.Frames) || decide (s.Ops < 0) || decide (1000000000 < s.Ops)) := fun b => by
    by_cases h4 : s.Faults = 3
    · have h5 : 3 ≤ s.Faults := by omega
      rw [h4]
      cases b <;> cases decide (s.Frames < 0) <;> cases decide (1000000000 < s.Frames) <;> cases decide (s.Ops < 0) <;> cases decide (1000000000 < s.Ops) <;> rfl
    · have h5 : ¬ 3 ≤ s.Faults := by omega
      have h6 : (s.Faults != 3) = true := by simpa using h4
      rw [h6, decide_eq_false h5, decide_eq_false h4]
      cases b <;> cases decide (s.Frames < 0) <;> cases decide (1000000000 < s.Frames) <;> cases decide (s.Ops < 0) <;> cases decide (1000000000 < s.Ops) <;> rfl
  have := key (s.State == 5)
  rw [decide_eq_false h0, decide_eq_false h3]
  cases hb : (s.State == 5)
  · rw [hb] at this
    simp only [Bool.not_false, if_true, Bool.false_eq_true, if_false] at this ⊢
    rw [this]; simp only [bs, Bool.false_or]
    cases ((decide (s.Faults = 3) != false) || decide (s.Frames < 0) || decide (1000000000 < s.Frames) || decide (s.Ops < 0) || decide (1000000000 < s.Ops)) <;> rfl
  · rw [hb] at this
    simp only [Bool.not_true, if_true, Bool.false_eq_true, if_false] at this ⊢
    rw [this]; simp only [bs, Bool.false_or]
    cases ((decide (s.Faults = 3) != true) || decide (s.Frames < 0) || decide (1000000000 < s.Frames) || decide (s.Ops < 0) || decide (1000000000 < s.Ops)) <;> rfl
theorem goodS_facts {s : api_Session} (h : goodS s = true) : 1 ≤ s.State.toNat ∧ s.State.toNat ≤ 5 ∧ 0 ≤ s.Faults ∧ s.Faults ≤ 3 ∧ (s.Faults = 3 ↔ s.State.toNat = 5) ∧ 0 ≤ s.Frames ∧ s.Frames ≤ 1000000000 ∧ 0 ≤ s.Ops ∧ s.Ops ≤ 1000000000 := by
  have e5 : (s.State == 5) = decide (s.State.toNat = 5) := by rw [Bool.eq_iff_iff]; simp [← UInt8.toNat_inj]
  unfold goodS at h
  rw [e5] at h
  simp [UInt8.lt_iff_toNat_lt, UInt8.le_iff_toNat_le] at h
  omega
theorem over_eq {s : api_Session} : session_over s = some (decide (4 ≤ s.State.toNat)) := by
  unfold session_over
  simp only [bs, UInt8.le_iff_toNat_le]; rfl
theorem Over_eq {s : api_Session} (h : goodS s = true) : braidref25_Over s = some (decide (4 ≤ s.State.toNat)) := by
  unfold braidref25_Over
  have h1 := goodS_facts h
  have e4 : (s.State == 4) = decide (s.State.toNat = 4) := by rw [Bool.eq_iff_iff]; simp [← UInt8.toNat_inj]
  have e5 : (s.State == 5) = decide (s.State.toNat = 5) := by rw [Bool.eq_iff_iff]; simp [← UInt8.toNat_inj]
  rw [e4, e5]
  by_cases h4 : s.State.toNat = 4
  · simp [h4]
  · by_cases h5 : s.State.toNat = 5
    · simp [h5]
    · have : ¬ 4 ≤ s.State.toNat := by omega
      simp [h4, h5, this]
/-! ### the comparison of what is to be done -/
def okD (d : api_Doing) : Prop := d.Frame.IDs.length ≤ 9223372036854775807 ∧ d.Frame.Ops.length ≤ 9223372036854775807
def okL (l : List api_Doing) : Prop := l.length ≤ 9223372036854775807 ∧ ∀ d ∈ l, okD d
theorem sameFrame_refl (f : api_Frame) (h1 : f.IDs.length ≤ 9223372036854775807) (h2 : f.Ops.length ≤ 9223372036854775807) : braidref25_SameFrame f f = some true := by
  unfold braidref25_SameFrame
  simp only [bne_self_eq_false, Bool.false_eq_true, if_false, bs]
  have e1 : iter (braidref25_SameFrame_L0 f f) 0 = some (.inr ()) := by
    refine iter_run f.IDs.length (fun k => (k : Int)) (fun i hi => ?_) ?_
    · unfold braidref25_SameFrame_L0
      rw [if_pos (by simp <;> omega)]
      simp only [idx_nat hi, bs, w64_nat (show i < 9223372036854775807 by omega)]
      simp
    · unfold braidref25_SameFrame_L0
      rw [if_neg (by simp)]
  have e2 : iter (braidref25_SameFrame_L2 f f) 0 = some (.inr ()) := by
    refine iter_run f.Ops.length (fun k => (k : Int)) (fun i hi => ?_) ?_
    · unfold braidref25_SameFrame_L2
      rw [if_pos (by simp <;> omega)]
      simp only [idx_nat hi, bs, w64_nat (show i < 9223372036854775807 by omega)]
      simp
    · unfold braidref25_SameFrame_L2
      rw [if_neg (by simp)]
  rw [e1, or_r, e2, or_r]
theorem same_refl25 (l : List api_Doing) (h : okL l) : braidref25_Same l l = some true := by
  unfold braidref25_Same
  simp only [bne_self_eq_false, Bool.false_eq_true, if_false]
  have e1 : iter (braidref25_Same_L0 l l) 0 = some (.inr ()) := by
    refine iter_run l.length (fun k => (k : Int)) (fun i hi => ?_) ?_
    · unfold braidref25_Same_L0
      have hd := h.2 l[i] (List.getElem_mem _)
      have := h.1
      rw [if_pos (by simp <;> omega)]
      simp only [idx_nat hi, bs, w64_nat (show i < 9223372036854775807 by omega), bne_self_eq_false, Bool.false_eq_true, if_false, sameFrame_refl _ hd.1 hd.2, Bool.not_true]
    · unfold braidref25_Same_L0
      rw [if_neg (by simp)]
  rw [e1, or_r]
theorem okL_nil : okL [] := ⟨by simp, by simp⟩
theorem okL_bye (n : UInt64) : okL [(⟨1, (⟨6, n, [], []⟩ : api_Frame)⟩ : api_Doing), (⟨6, (⟨0, 0, [], []⟩ : api_Frame)⟩ : api_Doing)] := ⟨by simp, by intro d hd; simp at hd; rcases hd with rfl | rfl <;> exact ⟨by simp, by simp⟩⟩
/-! ### the table -/
abbrev rulesL : List session_rule := [⟨1, 1, 2, 1⟩, ⟨1, 6, 4, 6⟩, ⟨2, 2, 3, 3⟩, ⟨2, 6, 4, 6⟩, ⟨3, 2, 3, 3⟩, ⟨3, 3, 3, 4⟩, ⟨3, 4, 3, 3⟩, ⟨3, 5, 3, 5⟩, ⟨3, 6, 4, 6⟩]
theorem find1_eq (r : session_rule) (a b : UInt8) : session_find_1 r a b = some (r.state == a && r.kind == b) := by
  unfold session_find_1
  cases (r.state == a) <;> rfl
theorem index_eq (l : List session_rule) (a b : UInt8) (hl : l.length ≤ 9223372036854775807) : ∀ (rest pre : List session_rule), l = pre ++ rest →
    iter (slices_IndexFunc_session_rule_session_rule_session_find_1_L0 l a b) (pre.length : Int) = some (match rest.findIdx? (fun r => r.state == a && r.kind == b) with | some i => .inl ((pre.length + i : Nat) : Int) | none => .inr ())
  | [], pre, e => by
    refine iter_l ?_
    subst e
    unfold slices_IndexFunc_session_rule_session_rule_session_find_1_L0
    simp
  | r :: rest, pre, e => by
    have hlen : pre.length < l.length := by rw [e]; simp
    have hget : l[pre.length]'hlen = r := by subst e; simp
    have hF : slices_IndexFunc_session_rule_session_rule_session_find_1_L0 l a b (pre.length : Int) = if (r.state == a && r.kind == b) then some (.inl (.inl (pre.length : Int))) else some (.inr ((pre.length + 1 : Nat) : Int)) := by
      unfold slices_IndexFunc_session_rule_session_rule_session_find_1_L0
      rw [if_pos (by simp <;> omega)]
      simp only [idx_nat hlen, hget, bs, find1_eq, w64_nat (show pre.length < 9223372036854775807 by omega)]
    rw [List.findIdx?_cons]
    cases hg : (r.state == a && r.kind == b) with
    | true => rw [hg] at hF; rw [iter_l hF]; simp
    | false =>
      rw [hg] at hF
      rw [iter_r hF]
      have ih := index_eq l a b hl rest (pre ++ [r]) (by simp [e])
      simp only [List.length_append, List.length_cons, List.length_nil, Nat.zero_add] at ih
      rw [ih]
      cases List.findIdx? (fun r => r.state == a && r.kind == b) rest <;> simp <;> omega
/-- the row for a state and a kind -/
def rowOf (a b : UInt8) : Option session_rule := rulesL.find? fun r => r.state == a && r.kind == b
theorem find_eq (a b : UInt8) : session_find a b = some (match rowOf a b with | some r => (r, true) | none => (⟨0, 0, 0, 0⟩, false)) := by
  have h := index_eq rulesL a b (by simp) rulesL [] rfl
  unfold session_find session_rules slices_IndexFunc_session_rule_session_rule_session_find_1
  simp only [bs]
  rw [show (0 : Int) = (([] : List session_rule).length : Int) from rfl, h]
  unfold rowOf
  rw [List.find?_eq_bind_findIdx?_getElem?]
  cases hi : rulesL.findIdx? (fun r => r.state == a && r.kind == b) with
  | none => rfl
  | some i =>
    have hlt : i < rulesL.length := (List.findIdx?_eq_some_iff_findIdx_eq.1 hi).1
    simp only [List.length_nil, Nat.zero_add, or_l, bs]
    rw [if_neg (by simp), idx_nat hlt]
    simp [List.getElem?_eq_getElem hlt]
theorem State_ok (a b : UInt8) : ∃ r, braidref25_State a b = some r := by
  unfold braidref25_State
  cases (a == 4) <;> cases (a == 5) <;> (try exact ⟨_, rfl⟩)
  cases (b == 6) <;> (try exact ⟨_, rfl⟩)
  cases (a == 1) <;> cases (b == 1) <;> (try exact ⟨_, rfl⟩)
  cases (b == 2) <;> (try exact ⟨_, rfl⟩)
  cases (a == 2) <;> (try exact ⟨_, rfl⟩)
  cases (b == 3) <;> (try exact ⟨_, rfl⟩)
  cases (b == 4) <;> exact ⟨_, rfl⟩

/-! ### frames that are not great -/
def lowB (b : List UInt8) : Bool := decide (b.length ≤ 3000)
theorem great_L0 (f : api_Frame) (hl : f.Ops.length ≤ 9223372036854775807) : ∀ (rest pre : List (List UInt8)), f.Ops = pre ++ rest → iter (braidref25_Great_L0 f) (pre.length : Int) = some (if rest.all lowB then .inr () else .inl true)
  | [], pre, e => by
    refine iter_l ?_
    unfold braidref25_Great_L0
    rw [if_neg (by simp [e])]; rfl
  | b :: rest, pre, e => by
    have hlen : pre.length < f.Ops.length := by rw [e]; simp
    have hget : f.Ops[pre.length]'hlen = b := by simp [e]
    have hF : braidref25_Great_L0 f (pre.length : Int) = if lowB b then some (.inr ((pre.length + 1 : Nat) : Int)) else some (.inl (.inl true)) := by
      unfold braidref25_Great_L0
      rw [if_pos (by simp; omega)]
      simp only [idx_nat hlen, hget, bs, w64_nat (show pre.length < 9223372036854775807 by omega)]
      by_cases hs : b.length ≤ 3000
      · rw [if_neg (by simp; omega), if_pos (by simpa [lowB] using hs)]
      · rw [if_pos (by simp; omega), if_neg (by simpa [lowB] using hs)]
    cases hs : lowB b with
    | false => rw [hs] at hF; rw [iter_l hF]; simp [hs]
    | true =>
      rw [hs] at hF
      rw [iter_r hF]
      have := great_L0 f hl rest (pre ++ [b]) (by simp [e])
      simp only [List.length_append, List.length_cons, List.length_nil, Nat.zero_add] at this
      rw [this]; simp [hs]
theorem great_eq (f : api_Frame) (h : wf_api_Frame f) : ∃ b, braidref25_Great f = some b ∧ (b = false → okF f ∧ f.IDs.length ≤ 60) := by
  have hl : f.Ops.length ≤ 9223372036854775807 := h.2.2.2.1.2
  have h0 := great_L0 f hl f.Ops [] rfl
  simp only [List.length_nil] at h0
  unfold braidref25_Great
  rw [show (0 : Int) = ((0 : Nat) : Int) from rfl, h0]
  cases ha : f.Ops.all lowB with
  | false => exact ⟨true, rfl, fun h => by cases h⟩
  | true =>
    simp only [if_true, or_r]
    by_cases h1 : 60 < f.IDs.length
    · exact ⟨true, by rw [decide_eq_true (by omega)]; rfl, fun h => by cases h⟩
    · rw [decide_eq_false (by omega)]
      refine ⟨_, rfl, fun h2 => ⟨⟨by omega, ?_, fun b hb => ?_⟩, by omega⟩⟩
      · simp at h2; omega
      · have := List.all_eq_true.1 ha b hb
        simpa [lowB] using this
/-! ### Take -/
def zF : api_Frame := ⟨0, 0, [], []⟩
def byeL (n : UInt64) : List api_Doing := [⟨1, ⟨6, n, [], []⟩⟩, ⟨6, zF⟩]
def bumped (s : api_Session) (f : api_Frame) : api_Session := { s with Frames := min (s.Frames + 1) 1000000000, Ops := min (s.Ops + (f.Ops.length : Int)) 1000000000 }
def takeS (s : api_Session) (f : api_Frame) : api_Session × List api_Doing × Int :=
  if goodS s = true ∧ goodF f = true then
    if 4 ≤ s.State.toNat then (s, [], 0)
    else match rowOf s.State f.Kind with
      | none => ({ bumped s f with State := 4 }, byeL 2, 0)
      | some r => if r.do_ = 1 ∧ f.N ≠ 1 then ({ bumped s f with State := 4 }, byeL 1, 0)
        else ({ bumped s f with State := r.next }, ⟨r.do_, if r.do_ = 6 then zF else f⟩ :: (if r.do_ = 1 then [⟨2, zF⟩] else []), 0)
  else (⟨0, 0, 0, 0⟩, [], 8)
theorem sTake_eq (s : api_Session) (f : api_Frame) (h : okF f) : session_Take s f = some (takeS s f) := by
  unfold session_Take takeS
  rw [sCheck_eq, fcheck_eq f h]
  cases hs : goodS s with
  | false => rfl
  | true =>
    cases hg : goodF f with
    | false => rfl
    | true =>
      have ht : (true = true ∧ true = true) := ⟨rfl, rfl⟩
      rw [if_pos ht]
      simp only [if_true, bs, bne_self_eq_false, Bool.false_eq_true, if_false]
      rw [over_eq]
      simp only [bs]
      by_cases h4 : 4 ≤ s.State.toNat
      · rw [if_pos h4, decide_eq_true h4]; rfl
      · rw [if_neg h4, decide_eq_false h4]
        have hf := goodS_facts hs
        have h2 := h.2.1
        have e : ({ { s with Frames := min (w64 (s.Frames + 1)) 1000000000 } with Ops := min (w64 ((({ s with Frames := min (w64 (s.Frames + 1)) 1000000000 } : api_Session).Ops) + (f.Ops.length : Int))) 1000000000 } : api_Session) = bumped s f := by
          unfold bumped
          rw [w64_eq (by omega) (by omega)]
          dsimp only
          rw [w64_eq (by omega) (by omega)]
        rw [e, clone_eq f h]
        have e2 : (bumped s f).State = s.State := rfl
        rw [find_eq]
        cases hr : rowOf s.State f.Kind with
        | none => rfl
        | some r =>
          simp only [bs, Bool.not_true, Bool.false_eq_true, if_false]
          by_cases h1 : r.do_ = 1
          · rw [h1]
            by_cases hN : f.N = 1
            · rw [hN]; rfl
            · have hN' : (f.N != 1) = true := by simpa using hN
              have hc : ((1 : UInt8) = 1 ∧ f.N ≠ 1) := ⟨rfl, hN⟩
              rw [hN', if_pos hc]; rfl
          · have h1' : (r.do_ == 1) = false := by simpa using h1
            have hc : ¬ (r.do_ = 1 ∧ f.N ≠ 1) := fun hh => h1 hh.1
            rw [h1', if_neg hc, if_neg h1]
            simp only [Bool.false_eq_true, if_false, bs]
            by_cases h6 : r.do_ = 6
            · rw [h6]; rfl
            · have h6' : (r.do_ != 6) = true := by simpa using h6
              rw [h6', if_neg h6]; rfl
theorem kind_of_good {f : api_Frame} (h : goodF f = true) : 1 ≤ f.Kind.toNat ∧ f.Kind.toNat ≤ 6 := by
  rcases kinds f.Kind with k | k | k | k
  · rcases k with e | e | e <;> rw [e] <;> decide
  · rw [k]; decide
  · rcases k with e | e <;> rw [e] <;> decide
  · obtain ⟨h1, h2, h3⟩ := k
    unfold goodF at h; rw [if_neg h1, if_neg h2, if_neg h3] at h; cases h
def rowP : Option session_rule → UInt8 × UInt8
  | some r => (r.next, r.do_)
  | none => (4, 0)
def rowOk : Option session_rule → Bool
  | some r => r.do_ != 0 && decide (1 ≤ r.next.toNat) && decide (r.next.toNat ≤ 4) && ((r.do_ == 6) == (r.next == 4)) && decide (r.do_.toNat ≤ 6)
  | none => true
theorem state_row (a b : UInt8) (h1 : 1 ≤ a.toNat) (h2 : a.toNat ≤ 3) (h3 : 1 ≤ b.toNat) (h4 : b.toNat ≤ 6) : braidref25_State a b = some (rowP (rowOf a b)) ∧ rowOk (rowOf a b) = true := by
  have k : ∀ (i : Fin 4) (j : Fin 7), 1 ≤ i.val → 1 ≤ j.val → braidref25_State (UInt8.ofNat i.val) (UInt8.ofNat j.val) = some (rowP (rowOf (UInt8.ofNat i.val) (UInt8.ofNat j.val))) ∧ rowOk (rowOf (UInt8.ofNat i.val) (UInt8.ofNat j.val)) = true := by decide
  have := k ⟨a.toNat, by omega⟩ ⟨b.toNat, by omega⟩ h1 h3
  simpa only [UInt8.ofNat_toNat] using this
theorem rTake_eq (s : api_Session) (f : api_Frame) (h : okF f) : braidref25_Take s f = some (takeS s f) := by
  unfold braidref25_Take takeS
  rw [refCheck_eq, rcheck_eq f h]
  cases hs : goodS s with
  | false => rfl
  | true =>
    cases hg : goodF f with
    | false => rfl
    | true =>
      have ht : (true = true ∧ true = true) := ⟨rfl, rfl⟩
      rw [if_pos ht]
      simp only [if_true, bs, bne_self_eq_false, Bool.false_eq_true, if_false]
      rw [Over_eq hs]
      simp only [bs]
      by_cases h4 : 4 ≤ s.State.toNat
      · rw [if_pos h4, decide_eq_true h4]; rfl
      · rw [if_neg h4, decide_eq_false h4]
        have hf := goodS_facts hs
        have h2 := h.2.1
        have eF : min 1000000000 (w64 (s.Frames + 1)) = (bumped s f).Frames := by
          unfold bumped; rw [w64_eq (by omega) (by omega), Int.min_comm]
        have eO : min 1000000000 (w64 (s.Ops + (f.Ops.length : Int))) = (bumped s f).Ops := by
          unfold bumped; rw [w64_eq (by omega) (by omega), Int.min_comm]
        rw [eF, eO, Twin25_eq f h]
        have hk := kind_of_good hg
        obtain ⟨q1, q2⟩ := state_row s.State f.Kind hf.1 (by omega) hk.1 hk.2
        simp only [bs, Bool.false_eq_true, if_false]
        rw [q1]
        cases hr : rowOf s.State f.Kind with
        | none => rfl
        | some r =>
          rw [hr] at q2
          have h0 : (r.do_ == 0) = false := by
            unfold rowOk at q2
            simp only [Bool.and_eq_true] at q2
            simpa using q2.1.1.1.1
          simp only [bs, rowP, h0, Bool.false_eq_true, if_false]
          by_cases h1 : r.do_ = 1
          · rw [h1]
            by_cases hN : f.N = 1
            · rw [hN]; rfl
            · have hN' : (f.N != 1) = true := by simpa using hN
              have hc : ((1 : UInt8) = 1 ∧ f.N ≠ 1) := ⟨rfl, hN⟩
              rw [hN', if_pos hc]; rfl
          · have h1' : (r.do_ == 1) = false := by simpa using h1
            have hc : ¬ (r.do_ = 1 ∧ f.N ≠ 1) := fun hh => h1 hh.1
            rw [h1', if_neg hc, if_neg h1]
            by_cases h6 : r.do_ = 6
            · rw [h6]; rfl
            · have h6' : (r.do_ == 6) = false := by simpa using h6
              rw [h6', if_neg h6]; rfl
theorem okL_take (s : api_Session) (f : api_Frame) (h : okF f) : okL (takeS s f).2.1 := by
  obtain ⟨h1, h2, h3⟩ := h
  have hz : okD ⟨2, zF⟩ := ⟨by simp [zF], by simp [zF]⟩
  unfold takeS
  split
  · split
    · exact okL_nil
    · split
      · exact okL_bye 2
      · rename_i r hr
        split
        · exact okL_bye 1
        · have hd : okD ⟨r.do_, if r.do_ = 6 then zF else f⟩ := by
            split
            · exact ⟨by simp [zF], by simp [zF]⟩
            · exact ⟨by dsimp only; omega, by dsimp only; omega⟩
          have hl : (if r.do_ = 1 then [(⟨2, zF⟩ : api_Doing)] else []).length ≤ 1 := by split <;> simp
          refine ⟨by simp only [List.length_cons]; omega, fun d hd' => ?_⟩
          rcases List.mem_cons.1 hd' with e | e
          · rw [e]; exact hd
          · by_cases h1 : r.do_ = 1
            · rw [if_pos h1] at e
              rw [List.mem_singleton.1 e]; exact hz
            · rw [if_neg h1] at e; cases e
  · exact okL_nil
theorem takes (s : api_Session) (f : api_Frame) (_ : wf_api_Session s) (hw : wf_api_Frame f) : braidlaw25_SessionTakes s f = some true := by
  unfold braidlaw25_SessionTakes
  obtain ⟨b, hb, hb2⟩ := great_eq f hw
  rw [hb]
  cases b with
  | true => rfl
  | false =>
    obtain ⟨h, -⟩ := hb2 rfl
    simp only [bs, Bool.false_eq_true, if_false]
    rw [Twin25_eq f h]
    simp only [bs]
    rw [sTake_eq s f h, rTake_eq s f h, sCheck_eq, refCheck_eq]
    simp only [bs, beq_self_eq_true, if_true, decide_true]
    rw [same_refl25 _ (okL_take s f h)]
    simp only [bs, if_true]
    rw [sameFrame_refl f (by have := h.1; omega) (by have := h.2.1; omega)]; rfl
end Go.Proofs.Ytklfgpdfongaeaa
