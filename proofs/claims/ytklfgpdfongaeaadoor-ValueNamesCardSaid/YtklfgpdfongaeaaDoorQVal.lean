/- Values: checks, classes, parts of floats. Plain. -/
import Derived.Test.YtklfgpdfongaeaaDoorPure
import Derived.Test.YtklfgpdfongaeaaDoorKW
import Derived.Test.YtklfgpdfongaeaaDoorWireSpec
import Derived.Test.YtklfgpdfongaeaaDoorD2
namespace Go.Proofs.YtklfgpdfongaeaaDoor
open Go
set_option linter.unusedSimpArgs false
set_option linter.unusedVariables false
theorem andI_nat {n k : Nat} (hn : n < 9223372036854775808) (hk : k < 9223372036854775808) : andI (n : Int) (k : Int) = ((n &&& k : Nat) : Int) := by
  show IntKind.i64.wrap (BitVec.toNat (BitVec.ofInt 64 (n : Int) &&& BitVec.ofInt 64 (k : Int)) : Int) = _
  rw [BitVec.ofInt_natCast, BitVec.ofInt_natCast, BitVec.toNat_and, BitVec.toNat_ofNat, BitVec.toNat_ofNat, Nat.mod_eq_of_lt (by omega), Nat.mod_eq_of_lt (by omega)]
  have := Nat.and_le_left (n := n) (m := k)
  exact wrap_i64' (by omega) (by omega)
/-! ### printable bytes -/
def okb (c : UInt8) : Bool := decide (32 ≤ c.toNat) && decide (c.toNat ≤ 126)
theorem rune_lo {b : List UInt8} {q : Nat} (h : q < b.length) (ha : (b[q]).toNat < 128) : runeAt b q = ((b[q]).toNat, 1) := by
  unfold runeAt
  exact decode_ascii ⟨b.toArray⟩ q (by show q < b.toArray.size; simpa using h) ha
theorem rune_hi {b : List UInt8} {q : Nat} (h : q < b.length) (ha : 128 ≤ (b[q]).toNat) : 128 ≤ (runeAt b q).1 := by
  unfold runeAt
  have e : ((ByteArray.mk b.toArray).get! (q + 0)).toNat = (b[q]).toNat := by
    show ((ByteArray.mk b.toArray).get! q).toNat = _
    simp [ByteArray.get!, h]
  simp only [Utf8.decode, e]
  rw [if_neg (by omega)]
  repeat' split
  all_goals (first | (simp only [Utf8.runeError]; omega) | (rename_i h1; simp at h1; omega) | omega)
theorem text1_eq (x : Int) : value_Text_1 x = some (decide (x < 32) || decide (126 < x)) := by
  unfold value_Text_1
  cases decide (x < 32) <;> rfl
theorem find_eq5 (b : List UInt8) : ∀ (rest pre : List UInt8), b = pre ++ rest →
    (rest.all okb = true → iter (strings_indexFunc_value_Text_1_L0 b true) pre.length = some (.inr ())) ∧ (rest.all okb = false → ∃ i : Nat, iter (strings_indexFunc_value_Text_1_L0 b true) pre.length = some (.inl (i : Int)))
  | [], pre, e => by
    refine ⟨fun _ => iter_l ?_, fun h => by simp at h⟩
    subst e
    unfold strings_indexFunc_value_Text_1_L0
    simp
  | c :: rest, pre, e => by
    have hlen : pre.length < b.length := by rw [e]; simp
    have hget : b[pre.length]'hlen = c := by subst e; simp
    have hF : strings_indexFunc_value_Text_1_L0 b true pre.length = if ((decide (((runeAt b pre.length).1 : Int) < 32) || decide (126 < ((runeAt b pre.length).1 : Int))) == true) then some (.inl (.inl (pre.length : Int))) else some (.inr (pre.length + (runeAt b pre.length).2)) := by
      unfold strings_indexFunc_value_Text_1_L0
      rw [if_pos hlen]
      simp only [bs, text1_eq]
    cases hc : okb c with
    | false =>
      refine ⟨fun h => by simp [hc] at h, fun _ => ⟨pre.length, iter_l ?_⟩⟩
      rw [hF, if_pos]
      by_cases h8 : c.toNat < 128
      · rw [rune_lo hlen (by rw [hget]; exact h8), hget]
        simp only [okb, Bool.and_eq_false_iff, decide_eq_false_iff_not] at hc
        simp; omega
      · have := rune_hi hlen (by rw [hget]; omega)
        simp; omega
    | true =>
      simp only [okb, Bool.and_eq_true, decide_eq_true_eq] at hc
      rw [rune_lo hlen (by rw [hget]; omega), hget, if_neg (by simp; omega)] at hF
      have ih := find_eq5 b rest (pre ++ [c]) (by simp [e])
      simp only [List.length_append, List.length_cons, List.length_nil, Nat.zero_add] at ih
      rw [iter_r hF]
      have hc' : okb c = true := by simp [okb, hc]
      simpa [hc'] using ih
theorem printable_eq (b : List UInt8) (hb : b.length ≤ 9223372036854775807) : ∀ (rest pre : List UInt8), b = pre ++ rest → iter (braidref05_Printable_L0 b) (pre.length : Int) = some (if rest.all okb then .inr () else .inl false)
  | [], pre, e => by
    refine iter_l ?_
    subst e
    unfold braidref05_Printable_L0
    simp
  | c :: rest, pre, e => by
    have hlen : pre.length < b.length := by rw [e]; simp
    have hget : b[pre.length]'hlen = c := by subst e; simp
    have hF : braidref05_Printable_L0 b (pre.length : Int) = if okb c then some (.inr ((pre.length + 1 : Nat) : Int)) else some (.inl (.inl false)) := by
      unfold braidref05_Printable_L0
      rw [if_pos (by simp <;> omega)]
      simp only [idx_nat hlen, hget, bs, w64_nat (show pre.length < 9223372036854775807 by omega)]
      simp only [okb, UInt8.lt_iff_toNat_lt, UInt8.reduceToNat]
      by_cases h1 : c.toNat < 32
      · have : ¬ 32 ≤ c.toNat := by omega
        simp [h1, this]
      · by_cases h2 : 126 < c.toNat
        · have : ¬ c.toNat ≤ 126 := by omega
          simp [h1, h2, this]
        · have h3 : 32 ≤ c.toNat := by omega
          have h4 : c.toNat ≤ 126 := by omega
          simp [h1, h2, h3, h4]
    cases hc : okb c with
    | false => rw [hc] at hF; rw [iter_l hF]; simp [hc]
    | true =>
      rw [hc] at hF
      rw [iter_r hF]
      have ih := printable_eq b hb rest (pre ++ [c]) (by simp [e])
      simp only [List.length_append, List.length_cons, List.length_nil, Nat.zero_add] at ih
      rw [ih]; simp [hc]
theorem Printable_eq (b : List UInt8) (hb : b.length ≤ 9223372036854775807) : braidref05_Printable b = some (b.all okb) := by
  have h := printable_eq b hb b [] rfl
  unfold braidref05_Printable
  rw [show (0 : Int) = (([] : List UInt8).length : Int) from rfl, h]
  cases b.all okb <;> rfl
theorem vText_eq (b : List UInt8) (hb : b.length ≤ 9223372036854775807) : value_Text b = some (if decide (30 < (b.length : Int)) then (⟨0, 0, 0, []⟩, 4) else if b.all okb then (⟨3, 0, 0, b⟩, 0) else (⟨0, 0, 0, []⟩, 8)) := by
  unfold value_Text strings_IndexFunc_value_Text_1 strings_indexFunc_value_Text_1
  cases decide (30 < (b.length : Int))
  · simp only [Bool.false_eq_true, if_false]
    obtain ⟨h1, h2⟩ := find_eq5 b b [] rfl
    simp only [List.length_nil] at h1 h2
    cases h : b.all okb
    · obtain ⟨i, hi⟩ := h2 h
      rw [hi]
      simp only [or_l, bs]
      rw [if_pos (by simp)]; rfl
    · rw [h1 h]; rfl
  · rfl
/-! ### floats -/
theorem split_eq (a : UInt64) : value_split a = some (((a.toNat / 4503599627370496 % 2048 : Nat) : Int), a % 4503599627370496) := by
  unfold value_split
  simp only [bs]
  have h0 := UInt64.toNat_lt a
  rw [shr64_toNat]
  have e1 : (2 : Nat) ^ (min 52 64) = 4503599627370496 := by decide
  rw [e1, w64_eq (by omega) (by omega), show (2047 : Int) = ((2047 : Nat) : Int) from rfl, andI_nat (by omega) (by omega)]
  congr 2
  · congr 1
    exact Nat.and_two_pow_sub_one_eq_mod _ 11
  · apply UInt64.toNat_inj.1
    rw [UInt64.toNat_and, UInt64.toNat_mod]
    exact Nat.and_two_pow_sub_one_eq_mod _ 52
theorem exp_eq (a : UInt64) : braidref05_Exponent a = some ((a.toNat / 4503599627370496 % 2048 : Nat) : Int) := by
  unfold braidref05_Exponent
  have h0 := UInt64.toNat_lt a
  simp only [bs, UInt64.toNat_div, UInt64.toNat_mod, UInt64.reduceToNat]
  rw [w64_eq (by omega) (by omega)]
  congr 2
  omega
def expo (a : UInt64) : Nat := a.toNat / 4503599627370496 % 2048
def mant (a : UInt64) : Nat := a.toNat % 4503599627370496
theorem expo_lt (a : UInt64) : expo a < 2048 := Nat.mod_lt _ (by omega)
theorem mant_lt (a : UInt64) : mant a < 4503599627370496 := Nat.mod_lt _ (by omega)
def clsF (a : UInt64) : UInt8 := if expo a = 2047 then (if mant a = 0 then 4 else 5) else if expo a = 0 then (if mant a = 0 then 1 else 2) else 3
theorem mant_z (a : UInt64) : (a % 4503599627370496 == 0) = decide (mant a = 0) := by
  rw [Bool.eq_iff_iff]
  simp only [beq_iff_eq, decide_eq_true_eq, ← UInt64.toNat_inj, UInt64.toNat_mod]
  rfl
theorem vClass_eq (a : UInt64) : value_Class a = some (clsF a) := by
  unfold value_Class clsF
  rw [split_eq]
  simp only [bs]
  have hm := mant_z a
  have hne : (a % 4503599627370496 != 0) = !decide (mant a = 0) := by rw [← hm]; rfl
  have he : ((a.toNat / 4503599627370496 % 2048 : Nat) : Int) = (expo a : Int) := rfl
  rw [hne, he]
  by_cases h1 : expo a = 2047
  · rw [h1]
    by_cases h2 : mant a = 0
    · rw [decide_eq_true h2, if_pos h2]; rfl
    · rw [decide_eq_false h2, if_neg h2]; rfl
  · have e1 : ((expo a : Int) == 2047) = false := by simp; omega
    rw [if_neg h1, e1]
    simp only [Bool.false_eq_true, if_false, bs]
    by_cases h0 : expo a = 0
    · rw [h0]
      by_cases h2 : mant a = 0
      · rw [decide_eq_true h2, if_pos h2]; rfl
      · rw [decide_eq_false h2, if_neg h2]; rfl
    · have e0 : ((expo a : Int) != 0) = true := by simp; omega
      rw [e0, if_neg h0]; rfl
theorem rClass_eq (a : UInt64) : braidref05_Class a = some (clsF a) := by
  unfold braidref05_Class braidref05_Fraction clsF
  rw [exp_eq]
  simp only [bs]
  rw [mant_z a]
  have hx := expo_lt a
  show orRet (if ((expo a : Int) == 0) = true then if decide (mant a = 0) = true then some (.inl 1) else some (.inr ()) else some (.inr ())) (fun s5 => if ((expo a : Int) == 0) = true then some 2 else if decide ((expo a : Int) < 2047) = true then some 3 else if decide (mant a = 0) = true then some 4 else some 5) = _
  by_cases h1 : expo a = 2047
  · rw [h1]
    by_cases h2 : mant a = 0 <;> simp [h2, or_r, or_l]
  · by_cases h0 : expo a = 0
    · rw [h0]
      by_cases h2 : mant a = 0 <;> simp [h2, or_r, or_l]
    · have e0 : ((expo a : Int) == 0) = false := by simp; omega
      have e2 : decide ((expo a : Int) < 2047) = true := by simp; omega
      rw [e0, e2, if_neg h1, if_neg h0]; rfl
def canonF (a : UInt64) : UInt64 := if clsF a = 5 then 9221120237041090560 else a
theorem vCanon_eq (a : UInt64) : value_Canon a = some (canonF a) := by
  unfold value_Canon canonF
  rw [vClass_eq]
  simp only [bs]
  by_cases h : clsF a = 5 <;> simp [h]
theorem rCanon_eq (a : UInt64) : braidref05_Canon a = some (canonF a) := by
  unfold braidref05_Canon canonF
  rw [rClass_eq]
  simp only [bs]
  by_cases h : clsF a = 5 <;> simp [h]
theorem vFloat_eq (a : UInt64) : value_Float a = some ⟨2, 0, canonF a, []⟩ := by
  unfold value_Float; rw [vCanon_eq]; rfl
def okV (v : api_Value) : Bool :=
  if v.Kind = 1 then decide (v.Bits = 0) && decide (v.Text = [])
  else if v.Kind = 2 then decide (v.Num = 0) && decide (v.Text = []) && decide (canonF v.Bits = v.Bits)
  else if v.Kind = 3 then decide (v.Num = 0) && decide (v.Bits = 0) && decide (v.Text.length ≤ 30) && v.Text.all okb
  else false
theorem rCheck_eq (v : api_Value) (hb : v.Text.length ≤ 9223372036854775807) : braidref05_Check v = some (if okV v then 0 else 8) := by
  obtain ⟨K, n, f, t⟩ := v
  unfold braidref05_Check okV
  simp only at hb ⊢
  rw [rCanon_eq, Printable_eq t hb]
  by_cases h1 : K = 1
  · subst h1
    by_cases hf : f = 0 <;> by_cases ht : t = [] <;> simp [hf, ht]
  by_cases h2 : K = 2
  · subst h2
    by_cases hn : n = 0 <;> by_cases ht : t = [] <;> by_cases hc : canonF f = f <;> simp [hn, ht, hc, bs]
  by_cases h3 : K = 3
  · subst h3
    by_cases hl : t.length ≤ 30
    · have hl' : (t.length : Int) ≤ 30 := by omega
      by_cases hn : n = 0 <;> by_cases hf : f = 0 <;> cases t.all okb <;> simp [hn, hf, hl, hl', bs]
    · have hl' : ¬ (t.length : Int) ≤ 30 := by omega
      by_cases hn : n = 0 <;> by_cases hf : f = 0 <;> simp [hn, hf, hl, hl', bs]
  · simp [h1, h2, h3]
theorem vCheck_eq (v : api_Value) (hb : v.Text.length ≤ 9223372036854775807) : value_Check v = some (if okV v then 0 else 8) := by
  obtain ⟨K, n, f, t⟩ := v
  unfold value_Check value_Number okV
  simp only at hb ⊢
  rw [vFloat_eq, vText_eq t hb]
  by_cases h1 : K = 1
  · subst h1
    by_cases hf : f = 0 <;> by_cases ht : t = [] <;> simp [hf, ht, bs]
  by_cases h2 : K = 2
  · subst h2
    by_cases hc : canonF f = f
    · by_cases hn : n = 0 <;> by_cases ht : t = [] <;> simp [hn, ht, hc, bs]
    · have hc' : ¬ f = canonF f := fun e => hc e.symm
      by_cases hn : n = 0 <;> by_cases ht : t = [] <;> simp [hn, ht, hc, hc', bs]
  by_cases h3 : K = 3
  · subst h3
    by_cases hl : 30 < (t.length : Int)
    · have h4 : ¬ t.length ≤ 30 := by omega
      rw [decide_eq_true hl, decide_eq_false h4]
      simp [bs]
    · have h4 : t.length ≤ 30 := by omega
      rw [decide_eq_false hl, decide_eq_true h4]
      cases t.all okb <;> by_cases hn : n = 0 <;> by_cases hf : f = 0 <;> simp [hn, hf, bs]
  · have e1 : (K == 1) = false := by simpa using h1
    have e2 : (K == 2) = false := by simpa using h2
    have e3 : (K == 3) = false := by simpa using h3
    simp only [e1, e2, e3, Bool.false_eq_true, if_false, bs, h1, h2, h3]
    by_cases h0 : K = 0
    · subst h0
      split <;> rfl
    · simp [h0]
end Go.Proofs.YtklfgpdfongaeaaDoor
