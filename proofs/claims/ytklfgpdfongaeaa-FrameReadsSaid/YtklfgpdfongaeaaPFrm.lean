/- Frames: copies, ids in order. Plain. -/
import Derived.Test.YtklfgpdfongaeaaPNum
import Derived.Test.YtklfgpdfongaeaaKW
namespace Go.Proofs.Ytklfgpdfongaeaa
open Go
set_option linter.unusedSimpArgs false
set_option linter.unusedVariables false
/-- a frame that the statements consider -/
def okF (f : api_Frame) : Prop := f.IDs.length ≤ 100 ∧ f.Ops.length ≤ 20 ∧ ∀ b ∈ f.Ops, b.length ≤ 3000
theorem Twin25_eq (f : api_Frame) (h : okF f) : braidref25_Twin f = some f := by
  unfold braidref25_Twin
  obtain ⟨h1, h2, h3⟩ := h
  rw [app_eq (by simp; omega)]
  simp only [bs, List.nil_append]
  have : iter (braidref25_Twin_L0 f) ([], 0) = some f.Ops := by
    have := iter_run (F := braidref25_Twin_L0 f) (b := f.Ops) f.Ops.length (fun i => (f.Ops.take i, (i : Int))) (fun i hi => ?_) ?_
    · simpa using this
    · unfold braidref25_Twin_L0
      have hb := h3 f.Ops[i] (List.getElem_mem _)
      rw [if_pos (by simp; omega)]
      simp only [idx_nat hi, bs]
      rw [app_eq (by simp; omega)]
      simp only [bs, List.nil_append]
      rw [app_eq (by simp; omega)]
      simp only [bs, w64_nat (show i < 9223372036854775807 by omega)]
      rw [List.take_add_one, List.getElem?_eq_getElem hi]
      rfl
    · unfold braidref25_Twin_L0
      rw [if_neg (by simp)]
      simp
  rw [this]
  rfl
theorem clone_eq (f : api_Frame) (h : okF f) : session_clone f = some f := by
  unfold session_clone slices_Clone_api_ID_api_ID slices_Clone_byte_byte
  obtain ⟨h1, h2, h3⟩ := h
  rw [app_eq (by simp; omega), app_eq (by simp; omega)]
  simp only [bs, List.nil_append]
  have : iter (session_clone_L0 f.Ops) (f.Ops, 0) = some f.Ops := by
    refine iter_run (F := session_clone_L0 f.Ops) (b := f.Ops) f.Ops.length (fun i => (f.Ops, (i : Int))) (fun i hi => ?_) ?_
    · unfold session_clone_L0 bytes_Clone
      have hb := h3 f.Ops[i] (List.getElem_mem _)
      rw [if_pos (by simp; omega)]
      simp only [idx_nat hi, bs]
      rw [app_eq (by simp; omega)]
      simp only [bs, List.nil_append, w64_nat (show i < 9223372036854775807 by omega), Int.toNat_natCast, List.set_getElem_self]
    · unfold session_clone_L0
      rw [if_neg (by simp)]
  rw [this]
  rfl
theorem listed_eq (k : UInt8) : frame_listed k = braidref07_Listed k := by
  have h : ∀ i : Fin 256, frame_listed (UInt8.ofNat i.val) = braidref07_Listed (UInt8.ofNat i.val) := by decide +kernel
  have := h ⟨k.toNat, UInt8.toNat_lt k⟩
  simpa using this
/-! ### ids compared -/
theorem cmp_from (a b : Vector UInt8 32) : ∀ (n i : Nat), 32 - i = n → i ≤ 32 → ∃ r : Sum Int Unit, iter (braidref01_Cmp_L0 a b) (i : Int) = some r ∧ (orRet (some r) (fun _ => some 0) = some (Lib.compareBytes (a.toList.drop i) (b.toList.drop i))) := by
  intro n
  induction n with
  | zero =>
    intro i hn hi
    have : i = 32 := by omega
    subst this
    refine ⟨.inr (), iter_l ?_, ?_⟩
    · unfold braidref01_Cmp_L0; rw [if_neg (by simp)]
    · rw [List.drop_eq_nil_of_le (by simp), List.drop_eq_nil_of_le (by simp)]; rfl
  | succ n ih =>
    intro i hn hi
    have hlt : i < 32 := by omega
    have da : a.toList.drop i = a[i] :: a.toList.drop (i + 1) := by rw [List.drop_eq_getElem_cons (by simpa using hlt)]; simp
    have db : b.toList.drop i = b[i] :: b.toList.drop (i + 1) := by rw [List.drop_eq_getElem_cons (by simpa using hlt)]; simp
    have hF : braidref01_Cmp_L0 a b (i : Int) = if decide (a[i] < b[i]) then some (.inl (.inl (-1))) else if decide (b[i] < a[i]) then some (.inl (.inl 1)) else some (.inr ((i + 1 : Nat) : Int)) := by
      unfold braidref01_Cmp_L0
      rw [if_pos (by simp; omega)]
      simp only [vidx_nat hlt, bs, w64_nat (show i < 9223372036854775807 by omega)]
    rw [da, db, Lib.compareBytes]
    by_cases h1 : a[i] < b[i]
    · rw [decide_eq_true h1] at hF
      exact ⟨_, iter_l hF, by rw [if_pos h1]; rfl⟩
    · rw [decide_eq_false h1] at hF
      by_cases h2 : b[i] < a[i]
      · rw [decide_eq_true h2] at hF
        exact ⟨_, iter_l hF, by rw [if_neg h1, if_pos h2]; rfl⟩
      · rw [decide_eq_false h2] at hF
        obtain ⟨r, k1, k2⟩ := ih (i + 1) (by omega) (by omega)
        exact ⟨r, by rw [iter_r hF]; exact k1, by rw [if_neg h1, if_neg h2]; exact k2⟩
theorem refCmp_eq (a b : Vector UInt8 32) : braidref01_Cmp a b = some (Lib.compareBytes a.toList b.toList) := by
  obtain ⟨r, h1, h2⟩ := cmp_from a b 32 0 rfl (by omega)
  unfold braidref01_Cmp
  rw [show (0 : Int) = ((0 : Nat) : Int) from rfl, h1]
  simpa using h2
theorem cmp_eq7 (a b : Vector UInt8 32) : digest_Cmp a b = some (Lib.compareBytes a.toList b.toList) := by
  unfold digest_Cmp bytes_Compare; rfl
theorem rising_eq (l : List (Vector UInt8 32)) : frame_rising l = braidref04_Rising l := by
  have : frame_rising_L0 l = braidref04_Rising_L0 l := by
    funext s
    unfold frame_rising_L0 braidref04_Rising_L0
    simp only [refCmp_eq, cmp_eq7]
  unfold frame_rising braidref04_Rising
  rw [this]
def incr : List (Vector UInt8 32) → Bool
  | a :: b :: l => !decide (0 ≤ Lib.compareBytes a.toList b.toList) && incr (b :: l)
  | _ => true
theorem rising_from (l : List (Vector UInt8 32)) (hl : l.length ≤ 9223372036854775807) : ∀ (n i : Nat), l.length - i = n → 1 ≤ i → i ≤ l.length → iter (braidref04_Rising_L0 l) (i : Int) = some (if incr (l.drop (i - 1)) then .inr () else .inl false) := by
  intro n
  induction n with
  | zero =>
    intro i hn h1 hi
    have : i = l.length := by omega
    refine iter_l ?_
    have e : l.drop (i - 1) = [l[i - 1]'(by omega)] := by
      rw [List.drop_eq_getElem_cons (by omega), List.drop_eq_nil_of_le (by omega)]
    rw [e]
    unfold braidref04_Rising_L0
    rw [if_neg (by simp; omega)]
    simp [incr]
  | succ n ih =>
    intro i hn h1 hi
    have hlt : i < l.length := by omega
    have e : l.drop (i - 1) = l[i - 1] :: l[i] :: l.drop (i + 1) := by
      rw [List.drop_eq_getElem_cons (by omega), show i - 1 + 1 = i by omega, List.drop_eq_getElem_cons hlt]
    have e' : l.drop (i + 1 - 1) = l[i] :: l.drop (i + 1) := by rw [Nat.add_sub_cancel, List.drop_eq_getElem_cons hlt]
    have hF : braidref04_Rising_L0 l (i : Int) = if decide (0 ≤ Lib.compareBytes (l[i - 1]).toList (l[i]).toList) then some (.inl (.inl false)) else some (.inr ((i + 1 : Nat) : Int)) := by
      unfold braidref04_Rising_L0
      rw [if_pos (by simp; omega), w64_eq (by omega) (by omega), show ((i : Int) - 1) = ((i - 1 : Nat) : Int) by omega]
      simp only [idx_nat hlt, idx_nat (show i - 1 < l.length by omega), bs, refCmp_eq, w64_nat (show i < 9223372036854775807 by omega)]
    rw [e, incr]
    cases hc : decide (0 ≤ Lib.compareBytes (l[i - 1]).toList (l[i]).toList) with
    | true => rw [hc] at hF; rw [iter_l hF]; rfl
    | false =>
      rw [hc] at hF
      rw [iter_r hF, ih (i + 1) (by omega) (by omega) (by omega), e']; simp
theorem Rising_eq (l : List (Vector UInt8 32)) (hl : l.length ≤ 9223372036854775807) : braidref04_Rising l = some (incr l) := by
  unfold braidref04_Rising
  cases l with
  | nil =>
    rw [iter_l (b := .inr ()) (by unfold braidref04_Rising_L0; rw [if_neg (by simp)])]; rfl
  | cons x l =>
    have := rising_from (x :: l) hl _ 1 rfl (by omega) (by simp)
    rw [show (1 : Int) = ((1 : Nat) : Int) from rfl, this]
    simp only [Nat.sub_self, List.drop_zero]
    cases incr (x :: l) <;> rfl
theorem wrising_from (l : List (Vector UInt8 32)) (hl : l.length ≤ 9223372036854775806) : ∀ (n i : Nat), l.length - i = n → i ≤ l.length → ∃ r, iter (slices_IndexFunc_api_ID_api_ID_wire_rising_1_L0 l l) ((i : Int), (i : Int)) = some r ∧ (incr (l.drop i) = true → ∃ c, r = .inr c) ∧ (incr (l.drop i) = false → ∃ (k : Nat) (c : Int), r = .inl ((k : Int), c)) := by
  intro n
  induction n with
  | zero =>
    intro i hn hi
    have : i = l.length := by omega
    refine ⟨.inr (i : Int), iter_l ?_, fun _ => ⟨_, rfl⟩, fun h => ?_⟩
    · unfold slices_IndexFunc_api_ID_api_ID_wire_rising_1_L0
      rw [if_neg (by simp; omega)]
    · rw [List.drop_eq_nil_of_le (by omega)] at h; simp [incr] at h
  | succ n ih =>
    intro i hn hi
    have hlt : i < l.length := by omega
    by_cases h2 : i + 1 < l.length
    · have e : l.drop i = l[i] :: l[i + 1] :: l.drop (i + 2) := by rw [List.drop_eq_getElem_cons hlt, List.drop_eq_getElem_cons h2]
      have e' : l.drop (i + 1) = l[i + 1] :: l.drop (i + 2) := by rw [List.drop_eq_getElem_cons h2]
      have hF : slices_IndexFunc_api_ID_api_ID_wire_rising_1_L0 l l ((i : Int), (i : Int)) = if decide (0 ≤ Lib.compareBytes (l[i]).toList (l[i + 1]).toList) then some (.inl (.inl ((i : Int), ((i + 1 : Nat) : Int)))) else some (.inr (((i + 1 : Nat) : Int), ((i + 1 : Nat) : Int))) := by
        unfold slices_IndexFunc_api_ID_api_ID_wire_rising_1_L0 wire_rising_1
        rw [if_pos (by simp; omega)]
        simp only [idx_nat hlt, bs, w64_nat (show i < 9223372036854775807 by omega)]
        rw [if_pos (by simp; omega), w64_eq (by omega) (by omega), show ((i + 1 : Nat) : Int) - 1 = (i : Int) by omega]
        simp only [idx_nat hlt, idx_nat h2, bs, cmp_eq7]
      rw [e, incr]
      cases hc : decide (0 ≤ Lib.compareBytes (l[i]).toList (l[i + 1]).toList) with
      | true =>
        rw [hc] at hF
        exact ⟨_, iter_l hF, fun h => by simp at h, fun _ => ⟨i, _, rfl⟩⟩
      | false =>
        rw [hc] at hF
        obtain ⟨r, k1, k2, k3⟩ := ih (i + 1) (by omega) (by omega)
        rw [e'] at k2 k3
        exact ⟨r, by rw [iter_r hF]; exact k1, fun h => k2 (by simpa using h), fun h => k3 (by simpa using h)⟩
    · have e : l.drop i = [l[i]] := by rw [List.drop_eq_getElem_cons hlt, List.drop_eq_nil_of_le (by omega)]
      have hF : slices_IndexFunc_api_ID_api_ID_wire_rising_1_L0 l l ((i : Int), (i : Int)) = some (.inr (((i + 1 : Nat) : Int), ((i + 1 : Nat) : Int))) := by
        unfold slices_IndexFunc_api_ID_api_ID_wire_rising_1_L0 wire_rising_1
        rw [if_pos (by simp; omega)]
        simp only [idx_nat hlt, bs, w64_nat (show i < 9223372036854775807 by omega)]
        rw [if_neg (by simp; omega)]
        simp only [bs]; rfl
      obtain ⟨r, k1, k2, k3⟩ := ih (i + 1) (by omega) (by omega)
      rw [List.drop_eq_nil_of_le (by omega)] at k2 k3
      exact ⟨r, by rw [iter_r hF]; exact k1, fun _ => k2 rfl, fun h => by rw [e] at h; simp [incr] at h⟩
theorem wrising_eq (l : List (Vector UInt8 32)) (hl : l.length ≤ 9223372036854775806) : wire_rising l = some (incr l) := by
  obtain ⟨r, k1, k2, k3⟩ := wrising_from l hl _ 0 rfl (by omega)
  unfold wire_rising slices_ContainsFunc_api_ID_api_ID_wire_rising_1 slices_IndexFunc_api_ID_api_ID_wire_rising_1
  rw [show ((0 : Int), (0 : Int)) = (((0 : Nat) : Int), ((0 : Nat) : Int)) from rfl, k1]
  simp only [List.drop_zero] at k2 k3
  cases h : incr l with
  | true => obtain ⟨c, rfl⟩ := k2 h; rfl
  | false =>
    obtain ⟨k, c, rfl⟩ := k3 h
    simp only [or_l, bs]
    rw [decide_eq_true (by omega)]; rfl
/-! ### lists of ids -/
def idsL (l : List (Vector UInt8 32)) : List UInt8 := l.flatMap Vector.toList
theorem idsL_len (l : List (Vector UInt8 32)) : (idsL l).length = 32 * l.length := by
  induction l with
  | nil => rfl
  | cons x l ih => unfold idsL at ih ⊢; rw [List.flatMap_cons, List.length_append, ih]; simp; omega
theorem idsL_take (l : List (Vector UInt8 32)) (i : Nat) (hi : i < l.length) : idsL (l.take (i + 1)) = idsL (l.take i) ++ (l[i]).toList := by
  rw [List.take_add_one, List.getElem?_eq_getElem hi]; unfold idsL; rw [List.flatMap_append, Option.toList_some, List.flatMap_cons, List.flatMap_nil, List.append_nil]
theorem list_L0 (l : List (Vector UInt8 32)) (h : l.length ≤ 1000) (s : List UInt8) (hs : s.length ≤ 9) : iter (braidref04_List_L0 l) (s, 0) = some (s ++ idsL l) := by
  have := iter_run (F := braidref04_List_L0 l) (b := s ++ idsL l) l.length (fun i => (s ++ idsL (l.take i), (i : Int))) (fun i hi => ?_) ?_
  · simpa [idsL] using this
  · unfold braidref04_List_L0
    have hf := idsL_len (l.take i)
    rw [if_pos (by simp; omega)]
    simp only [idx_nat hi, bs]
    rw [app_eq (by simp at hf ⊢; omega)]
    simp only [bs, w64_nat (show i < 9223372036854775807 by omega), idsL_take l i hi, List.append_assoc]
  · unfold braidref04_List_L0
    rw [if_neg (by simp)]
    simp
theorem ids_L0 (l : List (Vector UInt8 32)) (h : l.length ≤ 1000) (s : List UInt8) (hs : s.length ≤ 9) : iter (wire_IDs_L0 l) (s, 0) = some (s ++ idsL l) := by
  have := iter_run (F := wire_IDs_L0 l) (b := s ++ idsL l) l.length (fun i => (s ++ idsL (l.take i), (i : Int))) (fun i hi => ?_) ?_
  · simpa [idsL] using this
  · unfold wire_IDs_L0
    have hf := idsL_len (l.take i)
    rw [if_pos (by simp; omega)]
    simp only [idx_nat hi, bs]
    rw [app_eq (by simp at hf ⊢; omega)]
    simp only [bs, w64_nat (show i < 9223372036854775807 by omega), idsL_take l i hi, List.append_assoc]
  · unfold wire_IDs_L0
    rw [if_neg (by simp)]
    simp
theorem ofInt_len {n : Nat} (h : n < 18446744073709551616) : (UInt64.ofInt (n : Int)).toNat = n := by
  simp [UInt64.ofInt]; omega
theorem text_eq7 (b : List UInt8) (h : b.length ≤ 3000) : braidref04_Text b = some (numBytes b.length ++ b) := by
  unfold braidref04_Text
  have hn := numBytes_len b.length (by omega)
  rw [refNumber_eq, ofInt_len (by omega)]
  simp only [bs]
  rw [app_eq (by omega)]; rfl
theorem bytes_eq7 (b : List UInt8) (h : b.length ≤ 3000) : wire_Bytes b = some (numBytes b.length ++ b, 0) := by
  unfold wire_Bytes
  have hn := numBytes_len b.length (by omega)
  rw [if_neg (by simp; omega), wireNumber_eq, ofInt_len (by omega)]
  simp only [bs]
  rw [app_eq (by omega)]; rfl
theorem list_eq7 (l : List (Vector UInt8 32)) (h : l.length ≤ 1000) : braidref04_List l = some (numBytes l.length ++ idsL l) := by
  unfold braidref04_List
  have hn := numBytes_len l.length (by omega)
  rw [refNumber_eq, ofInt_len (by omega)]
  simp only [bs]
  rw [list_L0 l h _ (by omega)]; rfl
theorem ids_eq7 (l : List (Vector UInt8 32)) (h : l.length ≤ 60) (hi : incr l = true) : wire_IDs l = some (numBytes l.length ++ idsL l, 0) := by
  unfold wire_IDs
  have hn := numBytes_len l.length (by omega)
  rw [if_neg (by simp; omega), wrising_eq l (by omega), hi, wireNumber_eq, ofInt_len (by omega)]
  simp only [bs, Bool.not_true, Bool.false_eq_true, if_false]
  rw [ids_L0 l (by omega) _ (by omega)]; rfl
/-! ### lists of strings -/
def opsL (l : List (List UInt8)) : List UInt8 := l.flatMap fun b => numBytes b.length ++ b
def short (b : List UInt8) : Bool := decide ((b.length : Int) ≤ 400)
theorem write_L1 (f : api_Frame) (h : okF f) : ∀ (rest pre : List (List UInt8)), f.Ops = pre ++ rest → ∀ out : List UInt8, out.length ≤ 10 + pre.length * 3010 →
    ∃ o, iter (frame_write_L1 f) (out, true, (pre.length : Int)) = some (o, rest.all short) ∧ (rest.all short = true → o = out ++ opsL rest)
  | [], pre, e, out, ho => by
    refine ⟨out, iter_l ?_, fun _ => by simp [opsL]⟩
    unfold frame_write_L1
    rw [if_pos rfl, if_neg (by simp [e])]; rfl
  | b :: rest, pre, e, out, ho => by
    have h20 := h.2.1
    have hlen : pre.length < f.Ops.length := by rw [e]; simp
    have hget : f.Ops[pre.length]'hlen = b := by simp [e]
    have hb : b.length ≤ 3000 := h.2.2 b (by rw [e]; simp)
    have hn := numBytes_len b.length (by omega)
    have hF : frame_write_L1 f (out, true, (pre.length : Int)) = some (.inr (out ++ (numBytes b.length ++ b), short b, ((pre.length + 1 : Nat) : Int))) := by
      unfold frame_write_L1
      rw [if_pos rfl, if_pos (by simp; omega)]
      simp only [idx_nat hlen, hget, bs, bytes_eq7 b hb]
      rw [app_eq (by simp; omega)]
      simp only [bs, w64_nat (show pre.length < 9223372036854775807 by omega)]; rfl
    rw [iter_r hF]
    cases hs : short b with
    | false =>
      refine ⟨out ++ (numBytes b.length ++ b), ?_, fun hh => by simp [hs] at hh⟩
      have : frame_write_L1 f (out ++ (numBytes b.length ++ b), false, ((pre.length + 1 : Nat) : Int)) = some (.inl (out ++ (numBytes b.length ++ b), false)) := by
        unfold frame_write_L1; rw [if_neg (by simp)]
      rw [iter_l this]; simp [hs]
    | true =>
      obtain ⟨o, k1, k2⟩ := write_L1 f h rest (pre ++ [b]) (by simp [e]) (out ++ (numBytes b.length ++ b)) (by simp; omega)
      simp only [List.length_append, List.length_cons, List.length_nil, Nat.zero_add] at k1
      refine ⟨o, by rw [k1]; simp [hs], fun hh => ?_⟩
      rw [k2 (by simpa [hs] using hh)]; simp [opsL]
theorem opsL_cons (b : List UInt8) (l : List (List UInt8)) : opsL (b :: l) = (numBytes b.length ++ b) ++ opsL l := by simp [opsL]
theorem bytes_L0 (f : api_Frame) (h : okF f) : ∀ (rest pre : List (List UInt8)), f.Ops = pre ++ rest → ∀ out : List UInt8, out.length ≤ 10 + pre.length * 3010 →
    iter (braidref07_Bytes_L0 f) (out, (pre.length : Int)) = some (out ++ opsL rest)
  | [], pre, e, out, ho => by
    refine iter_l ?_
    unfold braidref07_Bytes_L0
    rw [if_neg (by simp [e])]; simp [opsL]
  | b :: rest, pre, e, out, ho => by
    have h20 := h.2.1
    have hlen : pre.length < f.Ops.length := by rw [e]; simp
    have hget : f.Ops[pre.length]'hlen = b := by simp [e]
    have hb : b.length ≤ 3000 := h.2.2 b (by rw [e]; simp)
    have hn := numBytes_len b.length (by omega)
    have hF : braidref07_Bytes_L0 f (out, (pre.length : Int)) = some (.inr (out ++ (numBytes b.length ++ b), ((pre.length + 1 : Nat) : Int))) := by
      unfold braidref07_Bytes_L0
      rw [if_pos (by simp; omega)]
      simp only [idx_nat hlen, hget, bs, text_eq7 b hb]
      rw [app_eq (by simp; omega)]
      simp only [bs, w64_nat (show pre.length < 9223372036854775807 by omega)]
    rw [iter_r hF]
    have := bytes_L0 f h rest (pre ++ [b]) (by simp [e]) (out ++ (numBytes b.length ++ b)) (by simp; omega)
    simp only [List.length_append, List.length_cons, List.length_nil, Nat.zero_add] at this
    rw [this, opsL_cons]; simp
theorem check_L0 (f : api_Frame) (h : okF f) : ∀ (rest pre : List (List UInt8)), f.Ops = pre ++ rest → iter (braidref07_Check_L0 f) (pre.length : Int) = some (if rest.all short then .inr () else .inl 8)
  | [], pre, e => by
    refine iter_l ?_
    unfold braidref07_Check_L0
    rw [if_neg (by simp [e])]; rfl
  | b :: rest, pre, e => by
    have h20 := h.2.1
    have hlen : pre.length < f.Ops.length := by rw [e]; simp
    have hget : f.Ops[pre.length]'hlen = b := by simp [e]
    have hF : braidref07_Check_L0 f (pre.length : Int) = if short b then some (.inr ((pre.length + 1 : Nat) : Int)) else some (.inl (.inl 8)) := by
      unfold braidref07_Check_L0
      rw [if_pos (by simp; omega)]
      simp only [idx_nat hlen, hget, bs, w64_nat (show pre.length < 9223372036854775807 by omega)]
      by_cases hs : (b.length : Int) ≤ 400
      · rw [if_neg (by simp; omega), if_pos (by simpa [short] using hs)]
      · rw [if_pos (by simp; omega), if_neg (by simpa [short] using hs)]
    cases hs : short b with
    | false => rw [hs] at hF; rw [iter_l hF]; simp [hs]
    | true =>
      rw [hs] at hF
      rw [iter_r hF]
      have := check_L0 f h rest (pre ++ [b]) (by simp [e])
      simp only [List.length_append, List.length_cons, List.length_nil, Nat.zero_add] at this
      rw [this]; simp [hs]
/-! ### the program's check -/
def goodF (f : api_Frame) : Bool :=
  if f.Kind = 2 ∨ f.Kind = 3 ∨ f.Kind = 4 then decide (f.N = 0) && decide (f.Ops = []) && decide (f.IDs.length ≤ 40) && incr f.IDs
  else if f.Kind = 5 then decide (f.N = 0) && decide (f.IDs = []) && decide (f.Ops.length ≤ 8) && f.Ops.all short && decide (1 + (numBytes f.Ops.length).length + (opsL f.Ops).length ≤ 2000)
  else if f.Kind = 1 ∨ f.Kind = 6 then decide (f.IDs = []) && decide (f.Ops = [])
  else false
theorem frising_eq (l : List (Vector UInt8 32)) (hl : l.length ≤ 9223372036854775807) : frame_rising l = some (incr l) := by rw [rising_eq, Rising_eq l hl]
theorem len0 {α : Type} (l : List α) : (((l.length : Int) == 0) = true) ↔ l = [] := by simp
def encF (f : api_Frame) : List UInt8 :=
  f.Kind :: (if f.Kind = 2 ∨ f.Kind = 3 ∨ f.Kind = 4 then numBytes f.IDs.length ++ idsL f.IDs else if f.Kind = 5 then numBytes f.Ops.length ++ opsL f.Ops else numBytes f.N.toNat)
theorem goodF_l {f : api_Frame} (hk : f.Kind = 2 ∨ f.Kind = 3 ∨ f.Kind = 4) : goodF f = (decide (f.N = 0) && decide (f.Ops = []) && decide (f.IDs.length ≤ 40) && incr f.IDs) := by
  unfold goodF; rw [if_pos hk]
theorem encF_l {f : api_Frame} (hk : f.Kind = 2 ∨ f.Kind = 3 ∨ f.Kind = 4) : encF f = f.Kind :: (numBytes f.IDs.length ++ idsL f.IDs) := by
  unfold encF; rw [if_pos hk]
theorem goodF_5 {f : api_Frame} (hk : f.Kind = 5) : goodF f = (decide (f.N = 0) && decide (f.IDs = []) && decide (f.Ops.length ≤ 8) && f.Ops.all short && decide (1 + (numBytes f.Ops.length).length + (opsL f.Ops).length ≤ 2000)) := by
  unfold goodF; rw [if_neg (by rw [hk]; decide), if_pos hk]
theorem encF_5 {f : api_Frame} (hk : f.Kind = 5) : encF f = f.Kind :: (numBytes f.Ops.length ++ opsL f.Ops) := by
  unfold encF; rw [if_neg (by rw [hk]; decide), if_pos hk]
theorem goodF_n {f : api_Frame} (hk : f.Kind = 1 ∨ f.Kind = 6) : goodF f = (decide (f.IDs = []) && decide (f.Ops = [])) := by
  unfold goodF; rw [if_neg (by rcases hk with e | e <;> rw [e] <;> decide), if_neg (by rcases hk with e | e <;> rw [e] <;> decide), if_pos hk]
theorem encF_n {f : api_Frame} (hk : f.Kind = 1 ∨ f.Kind = 6) : encF f = f.Kind :: numBytes f.N.toNat := by
  unfold encF; rw [if_neg (by rcases hk with e | e <;> rw [e] <;> decide), if_neg (by rcases hk with e | e <;> rw [e] <;> decide)]
/-- what a frame's kind may be -/
theorem kinds (k : UInt8) : (k = 2 ∨ k = 3 ∨ k = 4) ∨ k = 5 ∨ (k = 1 ∨ k = 6) ∨ (¬ (k = 2 ∨ k = 3 ∨ k = 4) ∧ k ≠ 5 ∧ ¬ (k = 1 ∨ k = 6)) := by
  by_cases h1 : k = 2 ∨ k = 3 ∨ k = 4
  · exact .inl h1
  · by_cases h2 : k = 5
    · exact .inr (.inl h2)
    · by_cases h3 : k = 1 ∨ k = 6
      · exact .inr (.inr (.inl h3))
      · exact .inr (.inr (.inr ⟨h1, h2, h3⟩))
theorem Listed_eq (k : UInt8) : braidref07_Listed k = some (decide (k = 2 ∨ k = 3 ∨ k = 4)) := by
  unfold braidref07_Listed
  by_cases h1 : k = 2
  · simp [h1]
  · by_cases h2 : k = 3
    · simp [h2]
    · by_cases h3 : k = 4
      · simp [h3]
      · simp [h1, h2, h3]
def FW (f : api_Frame) : Prop := ∃ o, frame_write f = some (o, goodF f) ∧ (goodF f = true → o = encF f)
set_option maxRecDepth 20000 in
theorem fwrite_l (f : api_Frame) (h : okF f) (hk : f.Kind = 2 ∨ f.Kind = 3 ∨ f.Kind = 4) : FW f := by
  obtain ⟨h1, h2, h3⟩ := h
  have hl : frame_listed f.Kind = some true := by rw [listed_eq, Listed_eq, decide_eq_true hk]
  unfold FW
  rw [goodF_l hk, encF_l hk]
  unfold frame_write
  rw [hl, frising_eq _ (by omega)]
  have hb : (if (f.N == 0) = true then if ((f.Ops.length : Int) == 0) = true then if decide ((f.IDs.length : Int) ≤ 40) = true then some (incr f.IDs) >>= fun r11 => some r11 else some false else some false else some false : Option Bool) = some (decide (f.N = 0) && decide (f.Ops = []) && decide (f.IDs.length ≤ 40) && incr f.IDs) := by
    by_cases hN : f.N = 0
    · by_cases hO : f.Ops = []
      · by_cases hI : f.IDs.length ≤ 40
        · have hI' : (f.IDs.length : Int) ≤ 40 := by omega
          simp [hN, hO, hI, hI']
        · have hI' : ¬ (f.IDs.length : Int) ≤ 40 := by omega
          simp [hN, hO, hI, hI']
      · have : ¬ ((f.Ops.length : Int) == 0) = true := by rw [len0]; exact hO
        simp [hN, hO, this]
    · simp [hN]
  simp only [bs, if_true]
  simp only [bs] at hb
  rw [hb]
  simp only [bs]
  cases hg : (decide (f.N = 0) && decide (f.Ops = []) && decide (f.IDs.length ≤ 40) && incr f.IDs) with
  | false => exact ⟨_, rfl, fun h => by cases h⟩
  | true =>
    simp only [Bool.and_eq_true, decide_eq_true_eq] at hg
    obtain ⟨⟨⟨g1, g2⟩, g3⟩, g4⟩ := hg
    have hn := numBytes_len f.IDs.length (by omega)
    have hd := idsL_len f.IDs
    simp only [if_true]
    rw [ids_eq7 _ (by omega) g4]
    simp only [bs]
    rw [app_eq (by simp; omega)]
    simp only [bs, if_true]
    rw [decide_eq_true (by simp; omega)]
    exact ⟨_, rfl, fun _ => rfl⟩
set_option maxRecDepth 20000 in
theorem fwrite_5 (f : api_Frame) (h : okF f) (hk : f.Kind = 5) : FW f := by
  have h' := h
  obtain ⟨h1, h2, h3⟩ := h
  have hl : frame_listed f.Kind = some false := by rw [hk]; rfl
  have hk5 : (f.Kind == 5) = true := by simpa using hk
  unfold FW
  rw [goodF_5 hk, encF_5 hk]
  unfold frame_write
  rw [hl]
  simp only [bs, if_true, Bool.false_eq_true, if_false, hk5]
  have hs : ∀ b : Bool, ∃ o, iter (frame_write_L1 f) ([f.Kind] ++ numBytes f.Ops.length, b, 0) = some (o, b && f.Ops.all short) ∧ ((b && f.Ops.all short) = true → o = [f.Kind] ++ numBytes f.Ops.length ++ opsL f.Ops) := fun b => by
    have hn := numBytes_len f.Ops.length (by omega)
    cases b with
    | false =>
      refine ⟨_, iter_l (b := ([f.Kind] ++ numBytes f.Ops.length, false)) ?_, fun h => by simp at h⟩
      unfold frame_write_L1; rw [if_neg (by simp)]
    | true =>
      obtain ⟨o, k1, k2⟩ := write_L1 f h' f.Ops [] rfl ([f.Kind] ++ numBytes f.Ops.length) (by simp; omega)
      exact ⟨o, by simpa using k1, fun hh => k2 (by simpa using hh)⟩
  have hn := numBytes_len f.Ops.length (by omega)
  rw [wireNumber_eq, ofInt_len (by omega)]
  have hb : (if (f.N == 0) = true then if ((f.IDs.length : Int) == 0) = true then some (decide ((f.Ops.length : Int) ≤ 8)) else some false else some false : Option Bool) = some (decide (f.N = 0) && decide (f.IDs = []) && decide (f.Ops.length ≤ 8)) := by
    by_cases hN : f.N = 0
    · by_cases hI : f.IDs = []
      · rw [if_pos (by simpa using hN), if_pos ((len0 _).2 hI), decide_eq_true hN, decide_eq_true hI]
        congr 1
        rw [Bool.eq_iff_iff]; simp; omega
      · rw [if_pos (by simpa using hN), if_neg (by rw [len0]; exact hI), decide_eq_false hI]; simp
    · rw [if_neg (by simpa using hN), decide_eq_false hN]; simp
  rw [hb]
  simp only [bs]
  rw [app_eq (by simp; omega)]
  simp only [bs]
  obtain ⟨o, k1, k2⟩ := hs (decide (f.N = 0) && decide (f.IDs = []) && decide (f.Ops.length ≤ 8))
  rw [k1]
  simp only [bs]
  cases hc : (decide (f.N = 0) && decide (f.IDs = []) && decide (f.Ops.length ≤ 8) && f.Ops.all short) with
  | false => exact ⟨_, rfl, fun h => by simp at h⟩
  | true =>
    rw [k2 hc]
    simp only [if_true, bs, Bool.true_and]
    refine ⟨[f.Kind] ++ numBytes f.Ops.length ++ opsL f.Ops, ?_, fun _ => by simp⟩
    congr 2
    rw [Bool.eq_iff_iff]; simp; omega
set_option maxRecDepth 20000 in
theorem fwrite_n (f : api_Frame) (h : okF f) (hk : f.Kind = 1 ∨ f.Kind = 6) : FW f := by
  have hl : frame_listed f.Kind = some false := by rcases hk with e | e <;> rw [e] <;> rfl
  have hk5 : (f.Kind == 5) = false := by rcases hk with e | e <;> rw [e] <;> rfl
  have hk1 : (if (f.Kind == 1) = true then some true else some (f.Kind == 6) : Option Bool) = some true := by rcases hk with e | e <;> rw [e] <;> rfl
  unfold FW
  rw [goodF_n hk, encF_n hk]
  unfold frame_write
  rw [hl]
  simp only [bs, Bool.false_eq_true, if_false, hk5]
  rw [hk1, wireNumber_eq]
  have hn := numBytes_len f.N.toNat (UInt64.toNat_lt _)
  have hb : (if ((f.IDs.length : Int) == 0) = true then some ((f.Ops.length : Int) == 0) else some false : Option Bool) = some (decide (f.IDs = []) && decide (f.Ops = [])) := by
    by_cases hI : f.IDs = []
    · rw [if_pos ((len0 _).2 hI), decide_eq_true hI]
      congr 1
      rw [Bool.eq_iff_iff, len0]; simp
    · rw [if_neg (by rw [len0]; exact hI), decide_eq_false hI]; simp
  simp only [bs, if_true]
  rw [hb]
  simp only [bs]
  rw [app_eq (by simp; omega)]
  simp only [bs]
  cases hg : (decide (f.IDs = []) && decide (f.Ops = [])) with
  | false => exact ⟨_, rfl, fun h => by cases h⟩
  | true =>
    simp only [if_true]
    rw [decide_eq_true (by simp; omega)]
    exact ⟨_, rfl, fun _ => rfl⟩
theorem fwrite_x (f : api_Frame) (hk : ¬ (f.Kind = 2 ∨ f.Kind = 3 ∨ f.Kind = 4) ∧ f.Kind ≠ 5 ∧ ¬ (f.Kind = 1 ∨ f.Kind = 6)) : FW f := by
  obtain ⟨h1, h2, h3⟩ := hk
  have hl : frame_listed f.Kind = some false := by rw [listed_eq, Listed_eq, decide_eq_false h1]
  have hg : goodF f = false := by unfold goodF; rw [if_neg h1, if_neg h2, if_neg h3]
  have hk5 : (f.Kind == 5) = false := by simpa using h2
  have hk1 : (f.Kind == 1) = false := by simpa using fun h => h3 (.inl h)
  have hk6 : (f.Kind == 6) = false := by simpa using fun h => h3 (.inr h)
  unfold FW
  rw [hg]
  refine ⟨[f.Kind], ?_, fun h => by cases h⟩
  unfold frame_write
  rw [hl, hk5, hk1, hk6]
  rfl
theorem fwrite (f : api_Frame) (h : okF f) : FW f := by
  rcases kinds f.Kind with k | k | k | k
  · exact fwrite_l f h k
  · exact fwrite_5 f h k
  · exact fwrite_n f h k
  · exact fwrite_x f k
theorem fcheck_eq (f : api_Frame) (h : okF f) : frame_Check f = some (if goodF f then 0 else 8) := by
  obtain ⟨o, h1, h2⟩ := fwrite f h
  unfold frame_Check
  rw [h1]
  simp only [bs]
  cases goodF f <;> rfl
/-! ### the reference's check -/
theorem Bytes_eq (f : api_Frame) (h : okF f) (hk : f.Kind ≥ 1) (hk6 : f.Kind ≤ 6) : braidref07_Bytes f = some (encF f) := by
  have h' := h
  obtain ⟨h1, h2, h3⟩ := h
  unfold braidref07_Bytes
  rw [Listed_eq]
  simp only [bs]
  by_cases k1 : f.Kind = 2 ∨ f.Kind = 3 ∨ f.Kind = 4
  · rw [decide_eq_true k1, if_pos rfl, encF_l k1, list_eq7 _ (by omega)]
    have hn := numBytes_len f.IDs.length (by omega)
    have hd := idsL_len f.IDs
    simp only [bs]
    rw [app_eq (by simp; omega)]; rfl
  · rw [decide_eq_false k1, if_neg (by simp)]
    by_cases k2 : f.Kind = 5
    · rw [if_neg (by simp [k2]), encF_5 k2, refNumber_eq, ofInt_len (by omega)]
      have hn := numBytes_len f.Ops.length (by omega)
      simp only [bs]
      rw [app_eq (by simp; omega)]
      simp only [bs]
      have := bytes_L0 f h' f.Ops [] rfl ([f.Kind] ++ numBytes f.Ops.length) (by simp; omega)
      simp only [List.length_nil] at this
      rw [show (0 : Int) = ((0 : Nat) : Int) from rfl, this]
      simp [bs]
    · rw [if_pos (by simpa using k2), refNumber_eq]
      have hn := numBytes_len f.N.toNat (UInt64.toNat_lt _)
      simp only [bs]
      rw [app_eq (by simp; omega)]
      unfold encF; rw [if_neg k1, if_neg k2]; rfl
end Go.Proofs.Ytklfgpdfongaeaa
