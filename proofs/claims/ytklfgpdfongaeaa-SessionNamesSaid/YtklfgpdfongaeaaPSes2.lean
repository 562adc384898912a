/- Sessions: Broken, Judged, End, Next; what is to be done at an end; the chapter's examples. Plain. -/
import Derived.Test.YtklfgpdfongaeaaPTake
import Derived.Test.YtklfgpdfongaeaaE8
namespace Go.Proofs.Ytklfgpdfongaeaa
open Go
set_option linter.unusedSimpArgs false
set_option linter.unusedVariables false
def brokenS (s : api_Session) : api_Session × List api_Doing × Int :=
  if goodS s = true then
    if 4 ≤ s.State.toNat then (s, [], 0)
    else if s.Faults = 2 then ({ s with Faults := 3, State := 5 }, byeL 3, 0)
    else ({ s with Faults := s.Faults + 1 }, [], 0)
  else (⟨0, 0, 0, 0⟩, [], 8)
theorem sBroken_eq (s : api_Session) : session_Broken s = some (brokenS s) := by
  unfold session_Broken brokenS
  rw [sCheck_eq]
  cases h : goodS s
  · rfl
  simp only [if_true, bs, bne_self_eq_false, Bool.false_eq_true, if_false]
  rw [over_eq]
  simp only [bs]
  by_cases h4 : 4 ≤ s.State.toNat
  · rw [decide_eq_true h4, if_pos h4]; rfl
  rw [decide_eq_false h4, if_neg h4]
  have hf := goodS_facts h
  simp only [w64_eq (show -9223372036854775808 ≤ s.Faults + 1 by omega) (by omega)]
  by_cases h2 : s.Faults = 2
  · rw [if_pos h2]; simp [h2, session_bye, byeL, zF, bs]
  · have h3 : ((s.Faults + 1) == 3) = false := by simp; omega
    rw [if_neg h2, h3]; rfl
def judgedS (s : api_Session) (v : UInt8) : api_Session × List api_Doing × Int :=
  if goodS s = true then
    if v < 1 ∨ 9 < v then (⟨0, 0, 0, 0⟩, [], 2)
    else if v = 2 ∨ v = 3 ∨ v = 4 then brokenS s
    else (s, [], 0)
  else (⟨0, 0, 0, 0⟩, [], 8)
theorem sJudged_eq (s : api_Session) (v : UInt8) : session_Judged s v = some (judgedS s v) := by
  unfold session_Judged judgedS
  rw [sCheck_eq, sBroken_eq]
  cases h : goodS s
  · rfl
  simp only [if_true, bs, bne_self_eq_false, Bool.false_eq_true, if_false]
  by_cases h1 : v < 1
  · rw [decide_eq_true h1, if_pos (Or.inl h1)]; rfl
  · by_cases h9 : 9 < v
    · rw [decide_eq_false h1, decide_eq_true h9, if_pos (Or.inr h9)]; rfl
    · have hn : ¬ (v < 1 ∨ 9 < v) := fun hh => hh.elim h1 h9
      rw [decide_eq_false h1, decide_eq_false h9, if_neg hn]
      simp only [Bool.false_eq_true, if_false, bs]
      by_cases h2 : v = 2
      · rw [if_pos (Or.inl h2)]; subst h2; rfl
      · by_cases h3 : v = 3
        · rw [if_pos (Or.inr (Or.inl h3))]; subst h3; rfl
        · by_cases h4 : v = 4
          · rw [if_pos (Or.inr (Or.inr h4))]; subst h4; rfl
          · have hn2 : ¬ (v = 2 ∨ v = 3 ∨ v = 4) := fun hh => hh.elim h2 (fun hh => hh.elim h3 h4)
            rw [if_neg hn2]; simp [h2, h3, h4, bs]
def endS (s : api_Session) (n : UInt64) : api_Session × List api_Doing × Int :=
  if goodS s = true then
    if 4 ≤ s.State.toNat then (s, [], 0) else ({ s with State := 4 }, byeL n, 0)
  else (⟨0, 0, 0, 0⟩, [], 8)
theorem sEnd_eq (s : api_Session) (n : UInt64) : session_End s n = some (endS s n) := by
  unfold session_End endS
  rw [sCheck_eq]
  cases h : goodS s
  · rfl
  simp only [if_true, bs, bne_self_eq_false, Bool.false_eq_true, if_false]
  rw [over_eq]
  simp only [bs]
  by_cases h4 : 4 ≤ s.State.toNat
  · rw [decide_eq_true h4, if_pos h4]; rfl
  · rw [decide_eq_false h4, if_neg h4]; rfl
def nextOf (a b : UInt8) : UInt8 := match rowOf a b with | some r => r.next | none => max a 4
theorem sNext_good (a b : UInt8) (h1 : 1 ≤ a.toNat) (h2 : a.toNat ≤ 5) (h3 : 1 ≤ b.toNat) (h4 : b.toNat ≤ 6) : session_Next a b = some (nextOf a b, 0) := by
  unfold session_Next nextOf
  have k1 : decide (a < 1) = false := by
    simp only [UInt8.lt_iff_toNat_lt, decide_eq_false_iff_not]; have : (1 : UInt8).toNat = 1 := rfl; omega
  have k2 : decide (5 < a) = false := by
    simp only [UInt8.lt_iff_toNat_lt, decide_eq_false_iff_not]; have : (5 : UInt8).toNat = 5 := rfl; omega
  have k3 : decide (b < 1) = false := by
    simp only [UInt8.lt_iff_toNat_lt, decide_eq_false_iff_not]; have : (1 : UInt8).toNat = 1 := rfl; omega
  have k4 : decide (6 < b) = false := by
    simp only [UInt8.lt_iff_toNat_lt, decide_eq_false_iff_not]; have : (6 : UInt8).toNat = 6 := rfl; omega
  rw [k1, k2, k3, k4, find_eq]
  cases rowOf a b <;> rfl
/-! ### the examples -/
theorem okF_nil (k : UInt8) (n : UInt64) : okF ⟨k, n, [], []⟩ := ⟨by simp, by simp, by simp⟩
set_option maxRecDepth 20000 in
theorem alive_eq : braidlaw25_alive = some true := by
  have t1 : takeS ⟨1, 0, 0, 0⟩ ⟨1, 1, [], []⟩ = (⟨2, 0, 1, 0⟩, [⟨1, ⟨1, 1, [], []⟩⟩, ⟨2, ⟨0, 0, [], []⟩⟩], 0) := by decide +kernel
  have t2 : takeS ⟨2, 0, 1, 0⟩ ⟨2, 0, [], []⟩ = (⟨3, 0, 2, 0⟩, [⟨3, ⟨2, 0, [], []⟩⟩], 0) := by decide +kernel
  have t3 : takeS ⟨3, 0, 2, 0⟩ ⟨1, 1, [], []⟩ = (⟨4, 0, 3, 0⟩, [⟨1, ⟨6, 2, [], []⟩⟩, ⟨6, ⟨0, 0, [], []⟩⟩], 0) := by decide +kernel
  have j1 : judgedS ⟨3, 0, 2, 0⟩ 4 = (⟨3, 1, 2, 0⟩, [], 0) := by decide +kernel
  have j2 : judgedS ⟨3, 1, 2, 0⟩ 5 = (⟨3, 1, 2, 0⟩, [], 0) := by decide +kernel
  have j3 : judgedS ⟨3, 1, 2, 0⟩ 2 = (⟨3, 2, 2, 0⟩, [], 0) := by decide +kernel
  have j4 : judgedS ⟨3, 2, 2, 0⟩ 3 = (⟨5, 3, 2, 0⟩, [⟨1, ⟨6, 3, [], []⟩⟩, ⟨6, ⟨0, 0, [], []⟩⟩], 0) := by decide +kernel
  have g : ∀ l : List api_Doing, l.length ≤ 2 → (∀ d ∈ l, d.Frame.IDs = [] ∧ d.Frame.Ops = []) → braidref25_Same l l = some true := fun l h1 h2 => same_refl25 l ⟨by omega, fun d hd => by obtain ⟨a, b⟩ := h2 d hd; exact ⟨by rw [a]; simp, by rw [b]; simp⟩⟩
  unfold braidlaw25_alive session_New braidlaw25_hello
  simp only [bs]
  rw [sTake_eq _ _ (okF_nil 1 1), t1]
  simp only [bs]
  rw [sTake_eq _ _ (okF_nil 2 0), t2]
  simp only [bs]
  rw [sTake_eq _ _ (okF_nil 1 1), t3]
  simp only [bs]
  rw [sJudged_eq, j1]
  simp only [bs]
  rw [sJudged_eq, j2]
  simp only [bs]
  rw [sJudged_eq, j3]
  simp only [bs]
  rw [sJudged_eq, j4]
  simp only [bs]
  rw [g _ (by simp) (by simp), g _ (by simp) (by simp), g _ (by simp) (by simp)]
  rfl
/-! ### what is to be done at an end -/
theorem ends_L0 (l : List api_Doing) (o : Bool) (hl : l.length ≤ 100) (h : ∀ (i : Nat) (d : api_Doing), l[i]? = some d → (d.Kind == 6) = (o && decide (i + 1 = l.length)) ∧ (d.Kind = 1 → frame_Check d.Frame = some 0)) : iter (braidlaw25_ends_L0 l) (o, 0) = some (.inr o) := by
  refine iter_run (F := braidlaw25_ends_L0 l) l.length (fun i => (o, (i : Int))) (fun i hi => ?_) ?_
  · obtain ⟨h1, h2⟩ := h i l[i] (List.getElem?_eq_getElem hi)
    unfold braidlaw25_ends_L0
    rw [if_pos (by simp; omega)]
    simp only [idx_nat hi, bs, w64_nat (show i < 9223372036854775807 by omega)]
    have e : ((i : Int) == w64 ((l.length : Int) - 1)) = decide (i + 1 = l.length) := by
      rw [w64_eq (by omega) (by omega), Bool.eq_iff_iff]; simp; omega
    rw [e, h1]
    by_cases h6 : l[i].Kind = 1
    · rw [h2 h6]
      have : (l[i].Kind == 1) = true := by simpa using h6
      rw [this]
      cases o <;> cases decide (i + 1 = l.length) <;> rfl
    · have : (l[i].Kind == 1) = false := by simpa using h6
      rw [this]
      cases o <;> cases decide (i + 1 = l.length) <;> rfl
  · unfold braidlaw25_ends_L0
    rw [if_neg (by simp)]
theorem ends_ok (s t : api_Session) (l : List api_Doing) {o1 o2 : Bool} (h1 : braidref25_Over s = some o1) (h2 : braidref25_Over t = some o2) (hl : l.length ≤ 100)
    (h : ∀ (i : Nat) (d : api_Doing), l[i]? = some d → (d.Kind == 6) = ((!o1 && o2) && decide (i + 1 = l.length)) ∧ (d.Kind = 1 → frame_Check d.Frame = some 0)) (h0 : l = [] → (!o1 && o2) = false) (h3 : o1 = true → l = []) : braidlaw25_ends s t l = some true := by
  unfold braidlaw25_ends
  have e : (if !o1 then some o2 >>= fun r7 => some r7 else some false : Option Bool) = some (!o1 && o2) := by cases o1 <;> rfl
  rw [h1, h2]
  simp only [bs] at e ⊢
  rw [e]
  simp only [bs]
  rw [ends_L0 l (!o1 && o2) hl h]
  simp only [or_r]
  cases l with
  | nil =>
    rw [h0 rfl]
    cases o1 <;> rfl
  | cons d l' =>
    have ho : o1 = false := by cases o1 with | false => rfl | true => exact absurd (h3 rfl) (by simp)
    subst ho
    rw [if_pos (by simp)]
    have hlast : (d :: l').length - 1 < (d :: l').length := by simp
    have he := (h ((d :: l').length - 1) _ (List.getElem?_eq_getElem hlast)).1
    rw [decide_eq_true (by simp), Bool.and_true] at he
    rw [w64_eq (by omega) (by omega), show (((d :: l').length : Int) - 1) = (((d :: l').length - 1 : Nat) : Int) by simp, idx_nat hlast]
    simp only [bs]
    rw [he]
    simp
theorem goodS_mk {s : api_Session} (h : 1 ≤ s.State.toNat ∧ s.State.toNat ≤ 5 ∧ 0 ≤ s.Faults ∧ s.Faults ≤ 3 ∧ (s.Faults = 3 ↔ s.State.toNat = 5) ∧ 0 ≤ s.Frames ∧ s.Frames ≤ 1000000000 ∧ 0 ≤ s.Ops ∧ s.Ops ≤ 1000000000) : goodS s = true := by
  have e5 : (s.State == 5) = decide (s.State.toNat = 5) := by rw [Bool.eq_iff_iff]; simp [← UInt8.toNat_inj]
  unfold goodS
  rw [e5]
  obtain ⟨a1, a2, a3, a4, a5, a6, a7, a8, a9⟩ := h
  have e3 : decide (s.Faults = 3) = decide (s.State.toNat = 5) := by simp only [a5]
  have b1 : decide (s.State < 1) = false := by
    simp only [UInt8.lt_iff_toNat_lt, decide_eq_false_iff_not]; have : (1 : UInt8).toNat = 1 := rfl; omega
  have b2 : decide (5 < s.State) = false := by
    simp only [UInt8.lt_iff_toNat_lt, decide_eq_false_iff_not]; have : (5 : UInt8).toNat = 5 := rfl; omega
  rw [e3, b1, b2, decide_eq_false (show ¬ s.Faults < 0 by omega), decide_eq_false (show ¬ 3 < s.Faults by omega), decide_eq_false (show ¬ s.Frames < 0 by omega), decide_eq_false (show ¬ 1000000000 < s.Frames by omega), decide_eq_false (show ¬ s.Ops < 0 by omega), decide_eq_false (show ¬ 1000000000 < s.Ops by omega)]
  simp
theorem good_bye (n : UInt64) : goodF ⟨6, n, [], []⟩ = true := by rw [goodF_n (.inr rfl)]; rfl
theorem check_bye (n : UInt64) : frame_Check ⟨6, n, [], []⟩ = some 0 := by rw [fcheck_eq _ (okF_nil 6 n), good_bye]; rfl
theorem ends_bye (s t : api_Session) (n : UInt64) (h1 : braidref25_Over s = some false) (h2 : braidref25_Over t = some true) : braidlaw25_ends s t (byeL n) = some true := by
  refine ends_ok s t _ h1 h2 (by simp [byeL]) (fun i d hd => ?_) (by simp [byeL]) (by simp)
  match i, hd with
  | 0, hd => simp [byeL] at hd; subst hd; exact ⟨rfl, fun _ => check_bye n⟩
  | 1, hd => simp [byeL] at hd; subst hd; exact ⟨rfl, fun h => absurd h (by decide)⟩
  | i + 2, hd => simp [byeL] at hd
theorem ends_nil (s t : api_Session) {o1 o2 : Bool} (h1 : braidref25_Over s = some o1) (h2 : braidref25_Over t = some o2) (h : (!o1 && o2) = false) : braidlaw25_ends s t [] = some true := 
  ends_ok s t _ h1 h2 (by simp) (fun i d hd => by simp at hd) (fun _ => h) (fun _ => rfl)
/-- what a row tells -/
def rowOk2 (a b : UInt8) : Option session_rule → Bool
  | some r => ((r.do_ == 1) == (a == 1 && b == 1))
  | none => !(a == 1 && b == 1)
theorem row_facts (a b : UInt8) (h1 : 1 ≤ a.toNat) (h2 : a.toNat ≤ 5) (h3 : 1 ≤ b.toNat) (h4 : b.toNat ≤ 6) : rowOk2 a b (rowOf a b) = true ∧ (4 ≤ a.toNat → rowOf a b = none) := by
  have k : ∀ (i : Fin 6) (j : Fin 7), 1 ≤ i.val → 1 ≤ j.val → rowOk2 (UInt8.ofNat i.val) (UInt8.ofNat j.val) (rowOf (UInt8.ofNat i.val) (UInt8.ofNat j.val)) = true ∧ (4 ≤ (UInt8.ofNat i.val).toNat → rowOf (UInt8.ofNat i.val) (UInt8.ofNat j.val) = none) := by decide
  have := k ⟨a.toNat, by omega⟩ ⟨b.toNat, by omega⟩ h1 h3
  simpa only [UInt8.ofNat_toNat] using this
/-- what Take leaves: a valid session, the same faults, what is to be done as it should be -/
theorem take_facts (s : api_Session) (f : api_Frame) (hs : goodS s = true) (hf : goodF f = true) (ho : okF f) :
    (takeS s f).2.2 = 0 ∧ goodS (takeS s f).1 = true ∧ (takeS s f).1.Faults = s.Faults ∧ braidlaw25_ends s (takeS s f).1 (takeS s f).2.1 = some true ∧
      (takeS s f).1.State = (if s.State = 1 ∧ f.Kind = 1 ∧ f.N ≠ 1 then 4 else nextOf s.State f.Kind) ∧ (4 ≤ s.State.toNat → takeS s f = (s, [], 0)) := by
  have hg := goodS_facts hs
  have hk := kind_of_good hf
  obtain ⟨q1, q2⟩ := row_facts s.State f.Kind hg.1 hg.2.1 hk.1 hk.2
  have hO := Over_eq hs
  have hin : goodS s = true ∧ goodF f = true := ⟨hs, hf⟩
  by_cases h4 : 4 ≤ s.State.toNat
  · have e : takeS s f = (s, [], 0) := by unfold takeS; rw [if_pos hin, if_pos h4]
    rw [e]
    refine ⟨rfl, hs, rfl, ends_nil s s hO hO (by simp), ?_, fun _ => rfl⟩
    have hn : ¬ (s.State = 1 ∧ f.Kind = 1 ∧ f.N ≠ 1) := fun hh => by rw [hh.1] at h4; exact absurd h4 (by decide)
    rw [if_neg hn]; unfold nextOf; rw [q2 h4]
    show s.State = max s.State 4
    apply UInt8.toNat_inj.1
    rw [show max s.State 4 = if s.State ≤ 4 then 4 else s.State from rfl]
    split
    · rename_i hle
      rw [UInt8.le_iff_toNat_le] at hle
      have : (4 : UInt8).toNat = 4 := rfl
      omega
    · rfl
  · rw [decide_eq_false h4] at hO
    have hgs : ∀ x : UInt8, 1 ≤ x.toNat → x.toNat ≤ 4 → goodS { bumped s f with State := x } = true := fun x hx1 hx2 => goodS_mk (by
      unfold bumped
      have := ho.2.1
      dsimp only
      refine ⟨hx1, by omega, hg.2.2.1, hg.2.2.2.1, ⟨fun h => ?_, fun h => ?_⟩, by omega, by omega, by omega, by omega⟩
      · have := hg.2.2.2.2.1.1 h; omega
      · omega)
    have hov : ∀ x : UInt8, 1 ≤ x.toNat → x.toNat ≤ 4 → braidref25_Over { bumped s f with State := x } = some (decide (x = 4)) := fun x hx1 hx2 => by
      rw [Over_eq (hgs x hx1 hx2)]
      congr 1
      rw [Bool.eq_iff_iff]
      simp only [decide_eq_true_eq, ← UInt8.toNat_inj]
      have : (4 : UInt8).toNat = 4 := rfl
      omega
    have hst := state_row s.State f.Kind hg.1 (by omega) hk.1 hk.2
    obtain ⟨-, hst⟩ := hst
    unfold takeS nextOf
    rw [if_pos hin, if_neg h4]
    cases hr : rowOf s.State f.Kind with
    | none =>
      rw [hr] at q1
      simp only [rowOk2] at q1
      refine ⟨rfl, hgs 4 (by decide) (by decide), rfl, ends_bye s _ 2 hO (by rw [hov 4 (by decide) (by decide)]; rfl), ?_, fun h => absurd h h4⟩
      have hn : ¬ (s.State = 1 ∧ f.Kind = 1 ∧ f.N ≠ 1) := fun hh => by rw [hh.1, hh.2.1] at q1; exact absurd q1 (by decide)
      rw [if_neg hn]
      show 4 = max s.State 4
      apply UInt8.toNat_inj.1
      rw [show max s.State 4 = if s.State ≤ 4 then 4 else s.State from rfl]
      split
      · rfl
      · rename_i hle
        rw [UInt8.le_iff_toNat_le] at hle
        have : (4 : UInt8).toNat = 4 := rfl
        omega
    | some r =>
      rw [hr] at q1 hst
      simp only [rowOk2, beq_iff_eq] at q1
      simp only [rowOk, Bool.and_eq_true, decide_eq_true_eq] at hst
      obtain ⟨⟨⟨⟨r0, r1⟩, r2⟩, r3⟩, r4⟩ := hst
      have h11 : r.do_ = 1 ↔ (s.State = 1 ∧ f.Kind = 1) := by
        have : (r.do_ == 1) = true ↔ (s.State == 1 && f.Kind == 1) = true := by rw [q1]
        simpa using this
      simp only
      by_cases hb : r.do_ = 1 ∧ f.N ≠ 1
      · rw [if_pos hb]
        refine ⟨rfl, hgs 4 (by decide) (by decide), rfl, ends_bye s _ 1 hO (by rw [hov 4 (by decide) (by decide)]; rfl), ?_, fun h => absurd h h4⟩
        rw [if_pos ⟨(h11.1 hb.1).1, (h11.1 hb.1).2, hb.2⟩]
      · rw [if_neg hb]
        refine ⟨rfl, hgs r.next r1 r2, rfl, ?_, ?_, fun h => absurd h h4⟩
        · by_cases h1 : r.do_ = 1
          · have h6 : r.do_ ≠ 6 := by rw [h1]; decide
            have hnx : decide (r.next = 4) = false := by
              have : (r.do_ == 6) = false := by simpa using h6
              rw [this] at r3
              simp at r3
              simpa using r3
            rw [if_neg h6, if_pos h1]
            refine ends_ok s _ _ hO (hov r.next r1 r2) (by simp) (fun i d hd => ?_) (by simp) (by simp)
            rw [hnx]
            match i, hd with
            | 0, hd => simp at hd; subst hd; exact ⟨by rw [h1]; rfl, fun _ => by rw [fcheck_eq f ho, hf]; rfl⟩
            | 1, hd => simp at hd; subst hd; exact ⟨rfl, fun h => absurd h (by decide)⟩
            | i + 2, hd => simp at hd
          · rw [if_neg h1]
            refine ends_ok s _ _ hO (hov r.next r1 r2) (by simp) (fun i d hd => ?_) (by simp) (by simp)
            match i, hd with
            | 0, hd =>
              simp at hd; subst hd
              refine ⟨?_, fun h => absurd h h1⟩
              simp at r3
              by_cases h6 : r.do_ = 6
              · have : r.next = 4 := by simpa [h6] using r3
                simp [h6, this]
              · have : ¬ r.next = 4 := fun hh => by simp [h6, hh] at r3
                simp [h6, this]
            | i + 1, hd => simp at hd
        · have hn : ¬ (s.State = 1 ∧ f.Kind = 1 ∧ f.N ≠ 1) := fun hh => hb ⟨h11.2 ⟨hh.1, hh.2.1⟩, hh.2.2⟩
          rw [if_neg hn]
end Go.Proofs.Ytklfgpdfongaeaa
