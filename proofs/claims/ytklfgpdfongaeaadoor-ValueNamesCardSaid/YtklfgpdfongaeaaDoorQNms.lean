/- Values: the examples: the law ValueNames. Plain. -/
import Derived.Test.YtklfgpdfongaeaaDoorQBack
import Derived.Test.YtklfgpdfongaeaaDoorD3
namespace Go.Proofs.YtklfgpdfongaeaaDoor
open Go
set_option linter.unusedSimpArgs false
set_option linter.unusedVariables false
def low : List api_Value := [⟨2, 0, 18442240474082181120, []⟩, ⟨2, 0, 18442240474082181119, []⟩, ⟨2, 0, 14114281232179134465, []⟩, ⟨1, -9223372036854775808, 0, []⟩, ⟨2, 0, 14114281232179134464, []⟩, ⟨1, -9223372036854775807, 0, []⟩, ⟨1, -2, 0, []⟩, ⟨2, 0, 13835058055282163712, []⟩, ⟨2, 0, 13832806255468478464, []⟩, ⟨1, -1, 0, []⟩, ⟨2, 0, 13830554455654793216, []⟩, ⟨2, 0, 9223372036854775809, []⟩, ⟨2, 0, 9223372036854775808, []⟩]
def high : List api_Value := [⟨2, 0, 0, []⟩, ⟨2, 0, 1, []⟩, ⟨2, 0, 4503599627370495, []⟩, ⟨2, 0, 4503599627370496, []⟩, ⟨1, 9007199254740991, 0, []⟩, ⟨2, 0, 4845873199050653695, []⟩, ⟨1, 9007199254740992, 0, []⟩, ⟨2, 0, 4845873199050653696, []⟩, ⟨1, 9007199254740993, 0, []⟩, ⟨1, 9007199254740994, 0, []⟩, ⟨2, 0, 4845873199050653697, []⟩, ⟨2, 0, 4890909195324358655, []⟩, ⟨1, 9223372036854775807, 0, []⟩, ⟨2, 0, 4890909195324358656, []⟩, ⟨2, 0, 9218868437227405311, []⟩, ⟨2, 0, 9218868437227405312, []⟩, ⟨2, 0, 9221120237041090560, []⟩, ⟨3, 0, 0, []⟩, ⟨3, 0, 0, ([32] : List UInt8)⟩, ⟨3, 0, 0, ([97] : List UInt8)⟩, ⟨3, 0, 0, ([97, 97] : List UInt8)⟩, ⟨3, 0, 0, ([98] : List UInt8)⟩, ⟨3, 0, 0, ([126] : List UInt8)⟩]
def bads : List api_Value := [(⟨0, 0, 0, []⟩ : api_Value), (⟨4, 0, 0, []⟩ : api_Value), (⟨1, 0, 1, []⟩ : api_Value), (⟨1, 0, 0, ([97] : List UInt8)⟩ : api_Value), (⟨2, 1, 0, []⟩ : api_Value), (⟨2, 0, 0, ([97] : List UInt8)⟩ : api_Value), (⟨2, 0, 9221120237041090561, []⟩ : api_Value), (⟨2, 0, 18444492273895866368, []⟩ : api_Value), (⟨3, 1, 0, []⟩ : api_Value), (⟨3, 0, 1, []⟩ : api_Value), (⟨3, 0, 0, ([127] : List UInt8)⟩ : api_Value), (⟨3, 0, 0, ([97, 10] : List UInt8)⟩ : api_Value), (⟨3, 0, 0, ([195, 169] : List UInt8)⟩ : api_Value), (⟨3, 0, 0, ([49, 50, 51, 52, 53, 54, 55, 56, 57, 48, 49, 50, 51, 52, 53, 54, 55, 56, 57, 48, 49, 50, 51, 52, 53, 54, 55, 56, 57, 48, 49] : List UInt8)⟩ : api_Value)]
theorem low_rise : rise low = true := by decide +kernel
theorem high_rise : rise high = true := by decide +kernel
theorem low_in : ∀ v ∈ low, (-9223372036854775808 ≤ v.Num ∧ v.Num ≤ 9223372036854775807) ∧ v.Text.length ≤ 9223372036854775807 := by decide +kernel
theorem high_in : ∀ v ∈ high, (-9223372036854775808 ≤ v.Num ∧ v.Num ≤ 9223372036854775807) ∧ v.Text.length ≤ 9223372036854775807 := by decide +kernel
theorem bads_in : ∀ v ∈ bads, ((-9223372036854775808 ≤ v.Num ∧ v.Num ≤ 9223372036854775807) ∧ v.Text.length ≤ 9223372036854775807) ∧ okV v = false := by decide +kernel
def badF (L : List api_Value) (s : Int) : Option (Sum (Sum Bool Unit) Int) :=
  if decide (s < (L.length : Int)) = true then idx L s >>= fun x119 => some (⟨3, 0, 0, [97]⟩ : api_Value) >>= fun r121 => value_Cmp x119 r121 >>= fun r123 => idx L s >>= fun x125 => some (⟨3, 0, 0, [97]⟩ : api_Value) >>= fun r127 => value_Cmp r127 x125 >>= fun r129 => idx L s >>= fun x131 => value_Encode x131 >>= fun r133 =>
    (idx L s >>= fun x136 => value_Check x136 >>= fun r138 => if r138 != 8 then some true else if r123.2 != 8 then some true else if r129.2 != 8 then some true else some (r133.2 != 8)) >>= fun s135 =>
    if s135 then some (.inl (.inl false)) else some (w64 (s + 1)) >>= fun y144 => some (.inr y144) else some (.inl (.inr ()))
theorem bad_eq (s : Int) : braidlaw05_ValueNames_L0 s = badF bads s := by
  unfold braidlaw05_ValueNames_L0 badF braidlaw05_text bads
  rfl
theorem bad_F (L : List api_Value) (hL : ∀ v ∈ L, ((-9223372036854775808 ≤ v.Num ∧ v.Num ≤ 9223372036854775807) ∧ v.Text.length ≤ 9223372036854775807) ∧ okV v = false) (hl : L.length = 14) (i : Nat) (h : i < 14) : badF L (i : Int) = some (.inr ((i + 1 : Nat) : Int)) := by
  have hi : i < L.length := by rw [hl]; exact h
  have hidx := idx_nat hi
  obtain ⟨⟨iv, tv⟩, bad⟩ := hL L[i] (List.getElem_mem hi)
  generalize L[i] = v at *
  unfold badF
  rw [if_pos (by simp; omega), hidx]
  simp only [bs]
  rw [vCmp_eq _ _ iv ⟨by decide, by decide⟩ tv (by simp), vCmp_eq _ _ ⟨by decide, by decide⟩ iv (by simp) tv, enc_eq _ iv tv, vCheck_eq _ tv, bad]
  simp only [bs, Bool.and_false, Bool.false_and, Bool.false_eq_true, if_false, bne_self_eq_false]
  rw [w64_nat (by omega)]
theorem bad_end (L : List api_Value) (hl : L.length = 14) : badF L ((14 : Nat) : Int) = some (.inl (.inr ())) := by
  unfold badF
  rw [hl, if_neg (by decide)]
theorem bads_len : bads.length = 14 := by decide +kernel
theorem bad_loop : iter (braidlaw05_ValueNames_L0) 0 = some (.inr ()) := by
  have h := iter_run (F := braidlaw05_ValueNames_L0) (b := (.inr () : Sum Bool Unit)) 14 (fun i => (i : Int)) (fun i hi => (bad_eq _).trans (bad_F bads bads_in bads_len i hi)) ((bad_eq _).trans (bad_end bads bads_len))
  exact h
theorem d1 : decV [] = (⟨0, 0, 0, []⟩, 0, 12) := by decide +kernel
theorem d2 : decV [2, 0, 0, 0, 0, 0, 0, 0] = (⟨0, 0, 0, []⟩, 0, 12) := by decide +kernel
theorem d3 : decV [2, 127, 248, 0, 0, 0, 0, 0, 1] = (⟨0, 0, 0, []⟩, 0, 12) := by decide +kernel
theorem d4 : decV [4, 0] = (⟨0, 0, 0, []⟩, 0, 12) := by decide +kernel
theorem d5 : decV [3, 1, 31] = (⟨0, 0, 0, []⟩, 0, 12) := by decide +kernel
theorem d6 : decV [1, 248, 1] = (⟨0, 0, 0, []⟩, 0, 12) := by decide +kernel
theorem d7 : decV [3, 1, 120, 121] = (⟨3, 0, 0, [120]⟩, 3, 0) := by decide +kernel
theorem cn0 : canonF 0 = 0 := by decide +kernel
theorem cn1 : canonF 1 = 1 := by decide +kernel
theorem cn4503599627370495 : canonF 4503599627370495 = 4503599627370495 := by decide +kernel
theorem cn4503599627370496 : canonF 4503599627370496 = 4503599627370496 := by decide +kernel
theorem cn4845873199050653695 : canonF 4845873199050653695 = 4845873199050653695 := by decide +kernel
theorem cn4845873199050653696 : canonF 4845873199050653696 = 4845873199050653696 := by decide +kernel
theorem cn4845873199050653697 : canonF 4845873199050653697 = 4845873199050653697 := by decide +kernel
theorem cn4890909195324358655 : canonF 4890909195324358655 = 4890909195324358655 := by decide +kernel
theorem cn4890909195324358656 : canonF 4890909195324358656 = 4890909195324358656 := by decide +kernel
theorem cn9218868437227405311 : canonF 9218868437227405311 = 9218868437227405311 := by decide +kernel
theorem cn9218868437227405312 : canonF 9218868437227405312 = 9218868437227405312 := by decide +kernel
theorem cn9221120237041090560 : canonF 9221120237041090560 = 9221120237041090560 := by decide +kernel
theorem cn9223372036854775808 : canonF 9223372036854775808 = 9223372036854775808 := by decide +kernel
theorem cn9223372036854775809 : canonF 9223372036854775809 = 9223372036854775809 := by decide +kernel
theorem cn13830554455654793216 : canonF 13830554455654793216 = 13830554455654793216 := by decide +kernel
theorem cn13832806255468478464 : canonF 13832806255468478464 = 13832806255468478464 := by decide +kernel
theorem cn13835058055282163712 : canonF 13835058055282163712 = 13835058055282163712 := by decide +kernel
theorem cn14114281232179134464 : canonF 14114281232179134464 = 14114281232179134464 := by decide +kernel
theorem cn14114281232179134465 : canonF 14114281232179134465 = 14114281232179134465 := by decide +kernel
theorem cn18442240474082181119 : canonF 18442240474082181119 = 18442240474082181119 := by decide +kernel
theorem cn18442240474082181120 : canonF 18442240474082181120 = 18442240474082181120 := by decide +kernel
theorem cl0 : clsF 0 = 1 := by decide +kernel
theorem cl9223372036854775808 : clsF 9223372036854775808 = 1 := by decide +kernel
theorem cl1 : clsF 1 = 2 := by decide +kernel
theorem cl9227875636482146303 : clsF 9227875636482146303 = 2 := by decide +kernel
theorem cl4503599627370496 : clsF 4503599627370496 = 3 := by decide +kernel
theorem cl9218868437227405311 : clsF 9218868437227405311 = 3 := by decide +kernel
theorem cl9218868437227405312 : clsF 9218868437227405312 = 4 := by decide +kernel
theorem cl18442240474082181120 : clsF 18442240474082181120 = 4 := by decide +kernel
theorem cl9218868437227405313 : clsF 9218868437227405313 = 5 := by decide +kernel
theorem cl18446744073709551615 : clsF 18446744073709551615 = 5 := by decide +kernel
theorem cx : canonF 18442240474082181121 = 9221120237041090560 := by decide +kernel
theorem names_law : braidlaw05_ValueNames = some true := by
  unfold braidlaw05_ValueNames
  rw [bad_loop, alive_eq]
  have hlow := rises_eq low (by simp [low]) low_in low_rise
  have hhigh := rises_eq high (by simp [high]) high_in high_rise
  unfold low at hlow
  unfold high at hhigh
  simp only [vClass_eq, vCanon_eq, vFloat_eq, value_Number, braidlaw05_text, bs, cn0, cn1, cn4503599627370495, cn4503599627370496, cn4845873199050653695, cn4845873199050653696, cn4845873199050653697, cn4890909195324358655, cn4890909195324358656, cn9218868437227405311, cn9218868437227405312, cn9221120237041090560, cn9223372036854775808, cn9223372036854775809, cn13830554455654793216, cn13832806255468478464, cn13835058055282163712, cn14114281232179134464, cn14114281232179134465, cn18442240474082181119, cn18442240474082181120, cl0, cl9223372036854775808, cl1, cl9227875636482146303, cl4503599627370496, cl9218868437227405311, cl9218868437227405312, cl18442240474082181120, cl9218868437227405313, cl18446744073709551615, cx]
  rw [vText_eq _ (by simp), vText_eq _ (by simp), vText_eq _ (by simp), dec_eq _ (by simp), dec_eq _ (by simp), dec_eq _ (by simp), dec_eq _ (by simp), dec_eq _ (by simp), dec_eq _ (by simp), dec_eq _ (by simp), d1, d2, d3, d4, d5, d6, d7]
  rw [hlow, hhigh]
  rfl
end Go.Proofs.YtklfgpdfongaeaaDoor
