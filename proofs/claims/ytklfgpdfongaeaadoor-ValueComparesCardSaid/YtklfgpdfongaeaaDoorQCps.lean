/- Values: the reference compares, writes and reads as the program does: the law ValueCompares. Plain. -/
import Derived.Test.YtklfgpdfongaeaaDoorQBack
import Derived.Test.YtklfgpdfongaeaaDoorQAs
namespace Go.Proofs.YtklfgpdfongaeaaDoor
open Go
set_option linter.unusedSimpArgs false
set_option linter.unusedVariables false
/-! ### binary digits, the lowest first -/
def vb : List UInt8 → Nat
  | [] => 0
  | x :: l => x.toNat + 2 * vb l
def bin (l : List UInt8) : Prop := (∀ x ∈ l, x.toNat ≤ 1) ∧ (∀ h : l ≠ [], (l.getLast h).toNat = 1)
theorem vb_app : ∀ (a b : List UInt8), vb (a ++ b) = vb a + tp a.length * vb b
  | [], b => by simp [vb, tp_def]
  | x :: a, b => by
    rw [List.cons_append, vb, vb, vb_app a b, List.length_cons, Nat.add_comm a.length 1, tp_add, tp_def 1, Nat.mul_add, Nat.add_assoc, Nat.mul_assoc]
theorem vb_lt : ∀ (l : List UInt8), (∀ x ∈ l, x.toNat ≤ 1) → vb l < tp l.length
  | [], _ => tp_pos 0
  | x :: l, h => by
    have h1 := vb_lt l (fun y hy => h y (by simp [hy]))
    have h2 := h x (by simp)
    rw [vb, List.length_cons, Nat.add_comm l.length 1, tp_add, tp_def 1]; omega
theorem vb_ge (l : List UInt8) (h : bin l) (hl : l ≠ []) : tp (l.length - 1) ≤ vb l := by
  have e := List.dropLast_concat_getLast hl
  have h1 := h.2 hl
  rw [← e, vb_app]
  simp only [vb, h1, List.length_append, List.length_dropLast, List.length_cons, List.length_nil]
  rw [Nat.mul_zero, Nat.add_zero, Nat.mul_one, show l.length - 1 + (0 + 1) - 1 = l.length - 1 by omega]
  omega
theorem order_eq (a b : Int) : braidref05_order a b = some (cmpI a b) := by
  unfold braidref05_order cmpI
  by_cases h1 : a < b
  · simp [h1]
  · by_cases h2 : b < a <;> simp [h1, h2]
theorem less_L0 (a b : List UInt8) (hl : a.length = b.length) (hb : a.length ≤ 100000) (ha : ∀ x ∈ a, x.toNat ≤ 1) (hb1 : ∀ x ∈ b, x.toNat ≤ 1) : ∀ (n : Nat), n ≤ a.length → a.drop n = b.drop n →
    orRet (iter (braidref05_less_L0 a b) ((n : Int) - 1)) (fun _ => some 0) = some (cmpI (vb a : Int) (vb b : Int)) := by
  intro n
  induction n with
  | zero =>
    intro _ he
    have e : a = b := by simpa using he
    have hF : braidref05_less_L0 a b (((0 : Nat) : Int) - 1) = some (.inl (.inr ())) := by
      unfold braidref05_less_L0
      rw [if_neg (by simp)]
    rw [iter_l hF, or_r, e, cmpI_zero.2 rfl]
  | succ n ih =>
    intro hn he
    have h1 : n < a.length := by omega
    have h2 : n < b.length := by omega
    have hs : ((n + 1 : Nat) : Int) - 1 = (n : Int) := by omega
    rw [hs]
    by_cases hx : a[n] = b[n]
    · have hF : braidref05_less_L0 a b (n : Int) = some (.inr ((n : Int) - 1)) := by
        unfold braidref05_less_L0
        rw [if_pos (by simp)]
        simp only [idx_nat h1, idx_nat h2, bs]
        rw [if_neg (by simp [hx]), w64_eq (by omega) (by omega)]
      rw [iter_r hF]
      exact ih (by omega) (by rw [List.drop_eq_getElem_cons h1, List.drop_eq_getElem_cons h2, hx, he])
    · have hv : ∀ (l : List UInt8) (h : n < l.length), vb l = vb (l.take n) + tp n * (l[n].toNat + 2 * vb (l.drop (n + 1))) := by
        intro l h
        have e := List.take_append_drop n l
        rw [List.drop_eq_getElem_cons h] at e
        have e2 := vb_app (l.take n) (l[n] :: l.drop (n + 1))
        rw [e, List.length_take, Nat.min_eq_left (by omega)] at e2
        exact e2
      have va := hv a h1; have vb' := hv b h2
      have la := vb_lt (a.take n) (fun x hx => ha x (List.mem_of_mem_take hx))
      have lb := vb_lt (b.take n) (fun x hx => hb1 x (List.mem_of_mem_take hx))
      rw [List.length_take, Nat.min_eq_left (by omega)] at la lb
      rw [he] at va
      have a1 := ha a[n] (List.getElem_mem h1); have b1 := hb1 b[n] (List.getElem_mem h2)
      have hne : a[n].toNat ≠ b[n].toNat := fun e => hx (UInt8.toNat_inj.1 e)
      have hF : braidref05_less_L0 a b (n : Int) = if a[n].toNat < b[n].toNat then some (.inl (.inl (-1))) else some (.inl (.inl 1)) := by
        unfold braidref05_less_L0
        rw [if_pos (by simp)]
        simp only [idx_nat h1, idx_nat h2, bs, UInt8.lt_iff_toNat_lt]
        rw [if_pos (by simpa using hx)]
        by_cases c : a[n].toNat < b[n].toNat <;> simp [c]
      generalize vb (b.drop (n + 1)) = D at va vb'
      generalize vb (a.take n) = A at va la
      generalize vb (b.take n) = B at vb' lb
      by_cases c : a[n].toNat < b[n].toNat
      · rw [if_pos c] at hF
        rw [iter_l hF, or_l]
        have z1 : a[n].toNat = 0 := by omega
        have z2 : b[n].toNat = 1 := by omega
        rw [z1, Nat.zero_add] at va
        rw [z2, Nat.mul_add, Nat.mul_one] at vb'
        unfold cmpI; rw [if_pos (by omega)]
      · rw [if_neg c] at hF
        rw [iter_l hF, or_l]
        have z1 : a[n].toNat = 1 := by omega
        have z2 : b[n].toNat = 0 := by omega
        rw [z2, Nat.zero_add] at vb'
        rw [z1, Nat.mul_add, Nat.mul_one] at va
        unfold cmpI; rw [if_neg (by omega), if_pos (by omega)]
theorem less_eq (a b : List UInt8) (ha : bin a) (hb : bin b) (la : a.length ≤ 100000) (lb : b.length ≤ 100000) : braidref05_less a b = some (cmpI (vb a : Int) (vb b : Int)) := by
  unfold braidref05_less
  have lt_of : ∀ (x y : List UInt8), bin x → bin y → x.length < y.length → vb x < vb y := by
    intro x y hx hy h
    have h1 := vb_lt x hx.1
    have h2 := vb_ge y hy (fun e => by rw [e] at h; simp at h)
    have h3 : tp x.length ≤ tp (y.length - 1) := tp_mono (by omega)
    omega
  by_cases h : a.length = b.length
  · rw [if_neg (by simp [h])]
    have := less_L0 a b h la ha.1 hb.1 a.length (by omega) (by rw [List.drop_length, h, List.drop_length])
    rw [bs, w64_eq (by omega) (by omega)]
    exact this
  · rw [if_pos (by simp; omega)]
    by_cases c : a.length < b.length
    · have := lt_of a b ha hb c
      rw [if_pos (by simp; omega)]
      unfold cmpI; rw [if_pos (by omega)]
    · have := lt_of b a hb ha (by omega)
      rw [if_neg (by simp; omega)]
      unfold cmpI; rw [if_neg (by omega), if_pos (by omega)]
theorem u64pos (u : UInt64) : decide (0 < u) = decide (0 < u.toNat) := by rw [decide_eq_decide, UInt64.lt_iff_toNat_lt]; rfl
theorem dig_L0 (u : UInt64) (hu : 0 < u.toNat) (s : Nat) (hs : s ≤ 3000) : iter (braidref05_digits_L0 u (s : Int)) ([], 0) = some (List.replicate s 0) := by
  have h := iter_run (F := braidref05_digits_L0 u (s : Int)) (b := List.replicate s (0 : UInt8)) s (fun i => (List.replicate i (0 : UInt8), (i : Int)))
    (fun i hi => by
      unfold braidref05_digits_L0
      rw [if_pos (by simp; omega), u64pos, if_pos (by simpa using hu), app_eq (by simp; omega)]
      simp only [bs]
      rw [w64_nat (by omega), List.replicate_succ'])
    (by
      unfold braidref05_digits_L0
      rw [if_neg (by simp)])
  exact h
theorem dig_L2 : ∀ (n : Nat) (u : UInt64) (acc : List UInt8), u.toNat = n → acc.length ≤ 3000 + (64 - (bitLen n)) → bitLen n ≤ 64 →
    ∃ ds, iter (braidref05_digits_L2) (u, acc) = some (acc ++ ds) ∧ vb ds = n ∧ bin ds ∧ ds.length ≤ 64 ∧ (0 < n → ds ≠ []) := by
  intro n
  induction n using Nat.strongRecOn with
  | _ n ih =>
    intro u acc hu ha hb
    by_cases h0 : n = 0
    · refine ⟨[], ?_, by rw [h0]; rfl, ⟨by simp, by simp⟩, by simp, by omega⟩
      rw [List.append_nil]
      refine iter_l ?_
      unfold braidref05_digits_L2
      rw [u64pos, if_neg (by simp; omega)]
    · have hx : ((u % 2).toUInt8).toNat = n % 2 := by rw [UInt64.toNat_toUInt8, UInt64.toNat_mod, hu]; show n % 2 % 256 = _; omega
      have hd : (u / 2).toNat = n / 2 := by rw [UInt64.toNat_div, hu]; rfl
      have hF : braidref05_digits_L2 (u, acc) = some (.inr (u / 2, acc ++ [(u % 2).toUInt8])) := by
        unfold braidref05_digits_L2
        rw [u64pos, if_pos (by simp; omega), app_eq (by simp; omega)]; rfl
      rw [iter_r hF]
      by_cases h1 : n = 1
      · have e0 : u / 2 = 0 := UInt64.toNat_inj.1 (by rw [hd, h1]; rfl)
        refine ⟨[(u % 2).toUInt8], ?_, by simp [vb, hx, h1], ⟨by intro x hm; simp at hm; rw [hm, hx]; omega, by intro hne; simp [hx, h1]⟩, by simp, by intro _ e; cases e⟩
        refine iter_l ?_
        unfold braidref05_digits_L2
        rw [e0]; rfl
      · have hbl : bitLen n = bitLen (n / 2) + 1 := by
          have := bitLen_shift n 1 (by omega)
          rw [Nat.pow_one] at this; omega
        obtain ⟨ds, i1, i2, i3, i4, i5⟩ := ih (n / 2) (by omega) (u / 2) (acc ++ [(u % 2).toUInt8]) hd (by simp only [List.length_append, List.length_cons, List.length_nil]; omega) (by omega)
        have hne := i5 (by omega)
        have hlen : ds.length ≤ 63 := by
          have h2 := vb_ge ds i3 hne
          have h3 := UInt64.toNat_lt u
          rw [i2] at h2
          rcases Nat.lt_or_ge 63 ds.length with h4 | h4
          · exfalso
            have : tp 63 ≤ tp (ds.length - 1) := tp_mono (by omega)
            rw [tp_def 63] at this; omega
          · exact h4
        refine ⟨(u % 2).toUInt8 :: ds, by rw [i1]; simp, by rw [vb, i2, hx]; omega, ⟨?_, ?_⟩, by simp only [List.length_cons]; omega, by intro _ e; cases e⟩
        · intro x hm
          rcases List.mem_cons.1 hm with e | e
          · rw [e, hx]; omega
          · exact i3.1 x e
        · intro h'
          rw [List.getLast_cons hne]; exact i3.2 hne
theorem digits_eq (u : UInt64) (hu : 0 < u.toNat) (s : Nat) (hs : s ≤ 3000) : ∃ ds, braidref05_digits u (s : Int) = some ds ∧ vb ds = u.toNat * tp s ∧ bin ds ∧ ds.length ≤ 100000 := by
  unfold braidref05_digits
  rw [dig_L0 u hu s hs]
  have hb : bitLen u.toNat ≤ 64 := bitLen_le _ 64 (by have := UInt64.toNat_lt u; omega)
  obtain ⟨ds, i1, i2, i3, i4, i5⟩ := dig_L2 u.toNat u (List.replicate s 0) rfl (by simp; omega) hb
  simp only [bs]
  rw [i1]
  simp only [bs]
  have hne := i5 hu
  have hz : ∀ s : Nat, vb (List.replicate s (0 : UInt8)) = 0 := by
    intro s
    induction s with
    | zero => rfl
    | succ s ih => rw [List.replicate_succ, vb, ih]; rfl
  refine ⟨_, rfl, by rw [vb_app, hz, List.length_replicate, i2, Nat.zero_add, Nat.mul_comm], ⟨?_, ?_⟩, by simp; omega⟩
  · intro x hm
    rcases List.mem_append.1 hm with e | e
    · rw [(List.mem_replicate.1 e).2]; decide
    · exact i3.1 x e
  · intro h'
    rw [List.getLast_append_of_ne_nil _ hne]; exact i3.2 hne
/-! ### sizes -/
theorem frac_eq (b : UInt64) : braidref05_Fraction b = some (b % 4503599627370496) := rfl
theorem frac_nat (b : UInt64) : (b % 4503599627370496).toNat = mant b := by rw [UInt64.toNat_mod, c52]; rfl
theorem size_eq (v : api_Value) (hI : inI v.Num) (h : okV v = true) (g : grpV v = 0) (h0 : magV v ≠ 0) (h1 : infV v = false) : ∃ ds, braidref05_size v = some ds ∧ vb ds = magV v ∧ bin ds ∧ ds.length ≤ 100000 := by
  obtain ⟨i1, i2⟩ := hI
  have e1074 : (1074 : Int) = ((1074 : Nat) : Int) := rfl
  unfold braidref05_size
  rcases okV_kind h with k | k | k
  · have hm : magV v = v.Num.natAbs * unit := by unfold magV; rw [if_pos k]
    have hn0 : v.Num.natAbs ≠ 0 := fun e => h0 (by rw [hm, e, Nat.zero_mul])
    rw [if_pos (by rw [k]; rfl)]
    have fin : ∀ u : UInt64, u.toNat = v.Num.natAbs → ∃ ds, braidref05_digits u 1074 = some ds ∧ vb ds = magV v ∧ bin ds ∧ ds.length ≤ 100000 := by
      intro u hu
      obtain ⟨ds, j1, j2, j3, j4⟩ := digits_eq u (by omega) 1074 (by omega)
      exact ⟨ds, j1, by rw [j2, hm, hu]; rfl, j3, j4⟩
    by_cases hn : v.Num < 0
    · rw [if_pos (by simpa using hn)]
      obtain ⟨ds, j1, j2⟩ := fin ((UInt64.ofInt (w64 (0 - (w64 (v.Num + 1))))) + 1) (by
        rw [w64_eq (x := v.Num + 1) (by omega) (by omega), w64_eq (by omega) (by omega), UInt64.toNat_add, ofInt_toNat, show (1 : UInt64).toNat = 1 from rfl]
        omega)
      rw [j1]; exact ⟨ds, rfl, j2⟩
    · rw [if_neg (by simpa using hn)]
      obtain ⟨ds, j1, j2⟩ := fin (UInt64.ofInt v.Num) (by rw [ofInt_toNat]; omega)
      rw [j1]; exact ⟨ds, rfl, j2⟩
  · have hk : ¬ v.Kind = 1 := by rw [k]; decide
    have hm : magV v = magF (expo v.Bits) (mant v.Bits) := by unfold magV; rw [if_neg hk]
    have hx : expo v.Bits ≠ 2047 := by
      intro e; unfold infV at h1; rw [if_neg hk, decide_eq_true e] at h1; cases h1
    have hxl := expo_lt v.Bits
    have hml := mant_lt v.Bits
    rw [if_neg (by rw [k]; decide), exp_eq]
    have he : ((v.Bits.toNat / 4503599627370496 % 2048 : Nat) : Int) = (expo v.Bits : Int) := rfl
    simp only [bs, he, frac_eq]
    by_cases hz : expo v.Bits = 0
    · have hm2 : magV v = mant v.Bits := by rw [hm]; unfold magF; rw [if_neg hx, if_pos hz]
      obtain ⟨ds, j1, j2, j3, j4⟩ := digits_eq (v.Bits % 4503599627370496) (by rw [frac_nat]; omega) 0 (by omega)
      rw [hz, if_pos (by rfl)]
      rw [show ((0 : Nat) : Int) = 0 from rfl] at j1
      rw [j1]
      exact ⟨ds, rfl, by rw [j2, frac_nat, hm2, tp_def 0, Nat.mul_one], j3, j4⟩
    · have hm2 : magV v = (4503599627370496 + mant v.Bits) * tp (expo v.Bits - 1) := by rw [hm]; unfold magF; rw [if_neg hx, if_neg hz]
      have hu : (4503599627370496 + v.Bits % 4503599627370496).toNat = 4503599627370496 + mant v.Bits := by
        rw [UInt64.add_comm]; exact add52 _ _ hml (frac_nat _)
      obtain ⟨ds, j1, j2, j3, j4⟩ := digits_eq (4503599627370496 + v.Bits % 4503599627370496) (by rw [hu]; omega) (expo v.Bits - 1) (by omega)
      rw [if_neg (by simp; omega), w64_eq (by omega) (by omega), show (expo v.Bits : Int) - 1 = ((expo v.Bits - 1 : Nat) : Int) by omega, j1]
      exact ⟨ds, rfl, by rw [j2, hu, hm2], j3, j4⟩
  · rw [grp3 k] at g; exact absurd g (by decide)
/-! ### sides -/
def sideOf (g z : Int) : Int := if g = 2 then 4 else if g = 1 then 3 else if z = (top : Int) then 2 else if z = -(top : Int) then -2 else cmpI z 0
theorem magV_lt {v : api_Value} (hI : inI v.Num) (h : okV v = true) (g : grpV v = 0) : (infV v = true → magV v = top) ∧ (infV v = false → magV v < top) := by
  have hn : v.Kind ≠ 1 → expo v.Bits = 2047 → mant v.Bits = 0 := by
    rcases grp_cases h with e | e | e
    · exact e.2.2
    · rw [g] at e; exact absurd e.1 (by decide)
    · rw [g] at e; exact absurd e (by decide)
  obtain ⟨n, -, o⟩ := of_ok v hI hn
  exact ⟨fun e => o.big e, fun e => by rw [e] at o; exact o.lt⟩
theorem sign_eq (b : UInt64) : braidref05_Sign b = some (b / 9223372036854775808) := rfl
theorem sign_one (b : UInt64) : (b / 9223372036854775808 == 1) = decide (9223372036854775808 ≤ b.toNat) := by
  have := UInt64.toNat_lt b
  rw [Bool.eq_iff_iff, beq_iff_eq, decide_eq_true_eq, ← UInt64.toNat_inj, UInt64.toNat_div]
  show b.toNat / 9223372036854775808 = 1 ↔ _
  omega
theorem cls_zero {b : UInt64} : clsF b = 1 ↔ magF (expo b) (mant b) = 0 := by
  unfold clsF magF
  have := top_pos
  by_cases h1 : expo b = 2047
  · rw [if_pos h1, if_pos h1]
    constructor
    · intro e; split at e <;> exact absurd e (by decide)
    · intro e; omega
  · rw [if_neg h1, if_neg h1]
    by_cases h0 : expo b = 0
    · rw [if_pos h0, if_pos h0]
      by_cases h2 : mant b = 0
      · simp [h2]
      · simp [h2]
    · rw [if_neg h0, if_neg h0]
      constructor
      · intro e; exact absurd e (by decide)
      · intro e
        have := Nat.mul_pos (show 0 < 4503599627370496 + mant b by omega) (tp_pos (expo b - 1))
        omega
theorem cls_inf {b : UInt64} : clsF b = 4 ↔ expo b = 2047 ∧ mant b = 0 := by
  unfold clsF
  by_cases h1 : expo b = 2047
  · rw [if_pos h1]
    by_cases h2 : mant b = 0 <;> simp [h1, h2]
  · rw [if_neg h1]
    constructor
    · intro e
      split at e
      · split at e <;> exact absurd e (by decide)
      · exact absurd e (by decide)
    · intro e; exact absurd e.1 h1
theorem side_eq (v : api_Value) (hI : inI v.Num) (h : okV v = true) : braidref05_side v = some (sideOf (grpV v) (zV v)) := by
  unfold braidref05_side
  rcases okV_kind h with k | k | k
  · have g := grp1 k
    obtain ⟨-, hlt⟩ := magV_lt hI h g
    have hinf : infV v = false := by unfold infV; rw [if_pos k]
    have hl := hlt hinf
    have hm : magV v = v.Num.natAbs * unit := by unfold magV; rw [if_pos k]
    have hz := z1 k
    have hp := unit_pos
    rw [if_neg (by rw [k]; decide), if_pos (by rw [k]; rfl), g]
    have hzz : (zV v).natAbs = magV v := by rw [hz, Int.natAbs_mul, hm]; rfl
    have hs : cmpI (zV v) 0 = cmpI v.Num 0 := by
      have := @cmpI_mul v.Num 0 unit hp
      rw [Int.zero_mul] at this
      rw [hz, this]
    have hsd : sideOf 0 (zV v) = cmpI v.Num 0 := by
      unfold sideOf
      rw [if_neg (by decide), if_neg (by decide), if_neg (by omega), if_neg (by omega), hs]
    rw [hsd]
    unfold cmpI
    by_cases c1 : v.Num < 0
    · simp [c1]
    · by_cases c2 : v.Num = 0
      · simp [c2]
      · have c3 : 0 < v.Num := by omega
        simp [c1, c2, c3]
  · have hk : ¬ v.Kind = 1 := by rw [k]; decide
    rw [if_neg (by rw [k]; decide), if_neg (by rw [k]; decide)]
    simp only [sign_eq, bs, sign_one, rClass_eq]
    by_cases c5 : clsF v.Bits = 5
    · have g := grp2n k c5
      rw [g, c5, show ∀ z, sideOf 1 z = 3 from fun _ => rfl]
      by_cases s : 9223372036854775808 ≤ v.Bits.toNat <;> simp [s, bs]
    · have g := grp2 k c5
      obtain ⟨hbig, hlt⟩ := magV_lt hI h g
      have hm : magV v = magF (expo v.Bits) (mant v.Bits) := by unfold magV; rw [if_neg hk]
      have hz := z2 k c5
      rw [← hm] at hz
      have hinf : infV v = decide (expo v.Bits = 2047) := by unfold infV; rw [if_neg hk]
      rw [g, hz]
      have hzero := @cls_zero v.Bits
      rw [← hm] at hzero
      have ht := top_pos
      have s0 : ∀ z : Int, sideOf 0 z = if z = (top : Int) then 2 else if z = -(top : Int) then -2 else cmpI z 0 := fun z => rfl
      rw [s0]
      by_cases c1 : clsF v.Bits = 1
      · rw [c1, hzero.1 c1]
        have e0 : ∀ s : Bool, sgn s 0 = 0 := by intro s; cases s <;> rfl
        have e1 : (if (0 : Int) = (top : Int) then (2 : Int) else if (0 : Int) = -(top : Int) then -2 else cmpI 0 0) = 0 := by
          rw [if_neg (by omega), if_neg (by omega)]; rfl
        rw [e0, e1]
        by_cases s : 9223372036854775808 ≤ v.Bits.toNat <;> simp [s, bs]
      · have hpos : magV v ≠ 0 := fun e => c1 (hzero.2 e)
        have b1 : (clsF v.Bits == 1) = false := by simpa using c1
        by_cases c4 : clsF v.Bits = 4
        · have hx := (cls_inf.1 c4).1
          rw [hbig (by rw [hinf, decide_eq_true hx]), c4]
          by_cases s : 9223372036854775808 ≤ v.Bits.toNat
          · rw [decide_eq_true s]
            have e1 : (if sgn true top = (top : Int) then (2 : Int) else if sgn true top = -(top : Int) then -2 else cmpI (sgn true top) 0) = -2 := by
              unfold sgn; simp only [if_true]; rw [if_neg (by omega)]
            rw [e1]; rfl
          · rw [decide_eq_false s]
            have e1 : (if sgn false top = (top : Int) then (2 : Int) else if sgn false top = -(top : Int) then -2 else cmpI (sgn false top) 0) = 2 := by
              unfold sgn; simp
            rw [e1]; rfl
        · have b4 : (clsF v.Bits == 4) = false := by simpa using c4
          have b5 : (clsF v.Bits == 5) = false := by simpa using c5
          have hx : expo v.Bits ≠ 2047 := fun e => c4 (cls_inf.2 ⟨e, clsF_ne c5 e⟩)
          have hl := hlt (by rw [hinf, decide_eq_false hx])
          rw [b1, b4, b5]
          by_cases s : 9223372036854775808 ≤ v.Bits.toNat
          · rw [decide_eq_true s]
            have e1 : (if sgn true (magV v) = (top : Int) then (2 : Int) else if sgn true (magV v) = -(top : Int) then -2 else cmpI (sgn true (magV v)) 0) = -1 := by
              unfold sgn cmpI; simp only [if_true]; rw [if_neg (by omega), if_neg (by omega), if_pos (by omega)]
            rw [e1]; rfl
          · rw [decide_eq_false s]
            have e1 : (if sgn false (magV v) = (top : Int) then (2 : Int) else if sgn false (magV v) = -(top : Int) then -2 else cmpI (sgn false (magV v)) 0) = 1 := by
              unfold sgn cmpI; simp only [Bool.false_eq_true, if_false]; rw [if_neg (by omega), if_neg (by omega), if_neg (by omega), if_pos (by omega)]
            rw [e1]; rfl
  · rw [if_pos (by rw [k]; rfl), grp3 k]; rfl
theorem rank_eq (v : api_Value) (h : okV v = true) (g : grpV v = 0) : braidref05_rank v = some (rkV v) := by
  unfold braidref05_rank
  rcases okV_kind h with k | k | k
  · rw [if_pos (by rw [k]; rfl), rk1 k]
  · have c5 : clsF v.Bits ≠ 5 := fun e => by rw [grp2n k e] at g; exact absurd g (by decide)
    have hz := @cls_zero v.Bits
    rw [if_neg (by rw [k]; decide), rk2 k c5]
    simp only [rClass_eq, bs, sign_eq, sign_one]
    by_cases c1 : clsF v.Bits = 1
    · rw [c1, hz.1 c1]
      by_cases s : 9223372036854775808 ≤ v.Bits.toNat <;> simp [s]
    · have b1 : (clsF v.Bits == 1) = false := by simpa using c1
      rw [b1, if_neg (by simp), if_neg (fun e => c1 (hz.2 e.1))]
  · rw [grp3 k] at g; exact absurd g (by decide)
theorem rank_n (v : api_Value) (h : okV v = true) (g : grpV v = 1) : braidref05_rank v = some 2 := by
  unfold braidref05_rank
  rcases okV_kind h with k | k | k
  · rw [grp1 k] at g; exact absurd g (by decide)
  · have c5 : clsF v.Bits = 5 := Classical.byContradiction fun e => by rw [grp2 k e] at g; exact absurd g (by decide)
    rw [if_neg (by rw [k]; decide)]
    simp only [rClass_eq, bs]
    rw [c5]; rfl
  · rw [grp3 k] at g; exact absurd g (by decide)
theorem texts_eq (a b : List UInt8) (ha : a.length ≤ 100000) (hb : b.length ≤ 100000) : braidref05_texts a b = some (cmpX a b) := by
  have key : ∀ (n i : Nat), a.length - i = n → orRet (iter (braidref05_texts_L0 a b) (i : Int)) (fun _ => braidref05_order (a.length : Int) (b.length : Int) >>= fun r16 => some r16) = some (if i ≤ a.length ∧ i ≤ b.length then cmpX (a.drop i) (b.drop i) else cmpI (a.length : Int) (b.length : Int)) := by
    intro n
    induction n with
    | zero =>
      intro i hn
      have hF : braidref05_texts_L0 a b (i : Int) = some (.inl (.inr ())) := by
        unfold braidref05_texts_L0
        rw [if_neg (by simp; omega)]
      rw [iter_l hF, or_r, order_eq]
      simp only [bs]
      by_cases h : i ≤ a.length ∧ i ≤ b.length
      · rw [if_pos h]
        have e : i = a.length := by omega
        subst e
        rw [List.drop_length]
        congr 1
        by_cases h2 : a.length = b.length
        · rw [h2, List.drop_length, cmpI_zero.2 rfl]; rfl
        · have h3 : a.length < b.length := by omega
          rw [List.drop_eq_getElem_cons h3, cmpX]
          unfold cmpI; rw [if_pos (by omega)]
      · rw [if_neg h]
    | succ n ih =>
      intro i hn
      have h1 : i < a.length := by omega
      by_cases h2 : i < b.length
      · rw [if_pos ⟨by omega, by omega⟩, List.drop_eq_getElem_cons h1, List.drop_eq_getElem_cons h2, cmpX]
        by_cases hx : a[i] = b[i]
        · have hF : braidref05_texts_L0 a b (i : Int) = some (.inr ((i + 1 : Nat) : Int)) := by
            unfold braidref05_texts_L0
            rw [if_pos (by simp; omega), if_pos (by simp; omega)]
            simp only [idx_nat h1, idx_nat h2, bs]
            rw [if_neg (by simp [hx]), w64_nat (by omega)]
          rw [iter_r hF, ih (i + 1) (by omega), if_pos ⟨by omega, by omega⟩, hx, cmpI_zero.2 rfl, lexC_zero]
        · have hF : braidref05_texts_L0 a b (i : Int) = some (.inl (.inl (cmpI (a[i].toNat : Int) (b[i].toNat : Int)))) := by
            unfold braidref05_texts_L0
            rw [if_pos (by simp; omega), if_pos (by simp; omega)]
            simp only [idx_nat h1, idx_nat h2, bs, order_eq]
            rw [if_pos (by simpa using hx)]
          rw [iter_l hF, or_l, lexC_ne]
          intro e
          rw [cmpI_zero] at e
          exact hx (UInt8.toNat_inj.1 (by omega))
      · have hF : braidref05_texts_L0 a b (i : Int) = some (.inl (.inr ())) := by
          unfold braidref05_texts_L0
          rw [if_pos (by simp; omega), if_neg (by simp; omega)]
        rw [iter_l hF, or_r, order_eq]
        simp only [bs]
        by_cases h : i ≤ a.length ∧ i ≤ b.length
        · rw [if_pos h]
          have e : i = b.length := by omega
          subst e
          rw [List.drop_length, List.drop_eq_getElem_cons h1, cmpX]
          unfold cmpI; rw [if_neg (by omega), if_pos (by omega)]
        · rw [if_neg h]
  have := key a.length 0 (by omega)
  rw [if_pos ⟨by omega, by omega⟩, List.drop_zero, List.drop_zero] at this
  exact this
theorem rCompare_eq (a b : api_Value) (ia : inI a.Num) (ib : inI b.Num) (ha : okV a = true) (hb : okV b = true) : braidref05_Compare a b = some (cmpV a b) := by
  unfold braidref05_Compare
  rw [side_eq a ia ha, side_eq b ib hb]
  simp only [bs, order_eq]
  have ht := top_pos
  have zb : ∀ (v : api_Value), inI v.Num → okV v = true → grpV v = 0 → -(top : Int) ≤ zV v ∧ zV v ≤ (top : Int) ∧ (zV v = sgn (negV v) (magV v)) ∧ (zV v ≠ (top : Int) → zV v ≠ -(top : Int) → infV v = false) := by
    intro v iv hv g
    obtain ⟨h1, h2⟩ := magV_lt iv hv g
    have hz : zV v = sgn (negV v) (magV v) := by unfold zV; rw [if_pos g]
    have hle : magV v ≤ top := by cases e : infV v with | true => rw [h1 e]; omega | false => have := h2 e; omega
    refine ⟨?_, ?_, hz, ?_⟩
    · rw [hz]; unfold sgn; split <;> omega
    · rw [hz]; unfold sgn; split <;> omega
    · intro n1 n2
      cases e : infV v with
      | false => rfl
      | true =>
        exfalso
        rw [hz, h1 e] at n1 n2
        unfold sgn at n1 n2
        cases hq : negV v
        · exact n1 (by simp [hq])
        · exact n2 (by simp [hq])
  have zn : ∀ (v : api_Value), grpV v ≠ 0 → zV v = 0 ∧ rkV v = 0 := fun v h => by unfold zV rkV; rw [if_neg h, if_neg h]; exact ⟨rfl, rfl⟩
  have text0 : ∀ (v : api_Value), okV v = true → grpV v ≠ 2 → v.Text = [] := by
    intro v hv h
    rcases grp_cases hv with e | e | e
    · exact e.2.1
    · exact e.2
    · exact absurd e h
  have gr : ∀ (v : api_Value), okV v = true → grpV v = 0 ∨ grpV v = 1 ∨ grpV v = 2 := by
    intro v hv
    rcases grp_cases hv with e | e | e
    · exact .inl e.1
    · exact .inr (.inl e.1)
    · exact .inr (.inr e)
  have s2 : ∀ z : Int, sideOf 2 z = 4 := fun z => rfl
  have s1 : ∀ z : Int, sideOf 1 z = 3 := fun z => rfl
  have s0 : ∀ z : Int, sideOf 0 z = if z = (top : Int) then 2 else if z = -(top : Int) then -2 else cmpI z 0 := fun z => rfl
  have s0r : ∀ z : Int, -2 ≤ sideOf 0 z ∧ sideOf 0 z ≤ 2 := by
    intro z; rw [s0]; have := cmpI_rng z 0; split
    · omega
    · split <;> omega
  have ex : cmpV a b = lexC (cmpI (grpV a) (grpV b)) (lexC (cmpI (zV a) (zV b)) (lexC (cmpI (rkV a) (rkV b)) (cmpX a.Text b.Text))) := rfl
  rw [ex]
  by_cases g : grpV a = grpV b
  · rw [cmpI_zero.2 g, lexC_zero]
    rcases gr b hb with gb | gb | gb
    · -- numbers
      have ga : grpV a = 0 := by rw [g, gb]
      obtain ⟨a1, a2, a3, a4⟩ := zb a ia ha ga
      obtain ⟨b1, b2, b3, b4⟩ := zb b ib hb gb
      rw [text0 a ha (by rw [ga]; decide), text0 b hb (by rw [gb]; decide)]
      have e0 : ∀ x : Int, lexC x (cmpX [] []) = x := fun x => by unfold lexC cmpX; split <;> simp_all
      rw [e0, ga, gb, rank_eq a ha ga, rank_eq b hb gb]
      simp only [bs, order_eq]
      by_cases hs : sideOf 0 (zV a) = sideOf 0 (zV b)
      · rw [if_neg (by simp [hs])]
        have r0 := s0r (zV a)
        have n4 : (sideOf 0 (zV a) == 4) = false := by simp; omega
        rw [n4]
        simp only [Bool.false_eq_true, if_false]
        by_cases hm1 : sideOf 0 (zV a) = -1
        · -- both less than zero
          have c1 := hm1; have c2 := hm1; rw [hs] at c2
          rw [s0] at c1 c2
          have i1 : ∀ z : Int, (if z = (top : Int) then (2 : Int) else if z = -(top : Int) then -2 else cmpI z 0) = -1 → z ≠ (top : Int) ∧ z ≠ -(top : Int) ∧ z < 0 := by
            intro z h
            split at h
            · omega
            · split at h
              · omega
              · rename_i u1 u2; exact ⟨u1, u2, cmpI_lt.1 (by omega)⟩
          obtain ⟨p1, p2, p3⟩ := i1 _ c1
          obtain ⟨q1, q2, q3⟩ := i1 _ c2
          have ma : zV a = -(magV a : Int) := by rw [a3] at p3 ⊢; unfold sgn at p3 ⊢; split at p3 <;> (try rw [if_pos (by assumption)]) <;> omega
          have mb : zV b = -(magV b : Int) := by rw [b3] at q3 ⊢; unfold sgn at q3 ⊢; split at q3 <;> (try rw [if_pos (by assumption)]) <;> omega
          obtain ⟨da, x1, x2, x3, x4⟩ := size_eq a ia ha ga (by omega) (a4 p1 p2)
          obtain ⟨db, y1, y2, y3, y4⟩ := size_eq b ib hb gb (by omega) (b4 q1 q2)
          rw [hm1, if_pos (by decide), x1, y1]
          simp only [bs]
          rw [less_eq db da y3 x3 y4 x4, x2, y2]
          have e1 : cmpI (zV a) (zV b) = cmpI (magV b : Int) (magV a : Int) := by
            rw [ma, mb]; unfold cmpI; (repeat' split) <;> omega
          rw [e1]
          simp only [bs]
          by_cases c : cmpI (magV b : Int) (magV a : Int) = 0
          · rw [c, lexC_zero, if_neg (by decide), or_r]
          · rw [if_pos (by simpa using c), lexC_ne c, or_l]
        · have n1 : (sideOf 0 (zV a) == -1) = false := by simpa using hm1
          rw [n1]
          simp only [Bool.false_eq_true, if_false]
          by_cases hp1 : sideOf 0 (zV a) = 1
          · have c1 := hp1; have c2 := hp1; rw [hs] at c2
            rw [s0] at c1 c2
            have i1 : ∀ z : Int, (if z = (top : Int) then (2 : Int) else if z = -(top : Int) then -2 else cmpI z 0) = 1 → z ≠ (top : Int) ∧ z ≠ -(top : Int) ∧ 0 < z := by
              intro z h
              split at h
              · omega
              · split at h
                · omega
                · rename_i u1 u2; exact ⟨u1, u2, cmpI_gt.1 (by omega)⟩
            obtain ⟨p1, p2, p3⟩ := i1 _ c1
            obtain ⟨q1, q2, q3⟩ := i1 _ c2
            have ma : zV a = (magV a : Int) := by rw [a3] at p3 ⊢; unfold sgn at p3 ⊢; split at p3 <;> (try rw [if_neg (by assumption)]) <;> omega
            have mb : zV b = (magV b : Int) := by rw [b3] at q3 ⊢; unfold sgn at q3 ⊢; split at q3 <;> (try rw [if_neg (by assumption)]) <;> omega
            obtain ⟨da, x1, x2, x3, x4⟩ := size_eq a ia ha ga (by omega) (a4 p1 p2)
            obtain ⟨db, y1, y2, y3, y4⟩ := size_eq b ib hb gb (by omega) (b4 q1 q2)
            rw [hp1, if_pos (by decide), x1, y1]
            simp only [bs]
            rw [less_eq da db x3 y3 x4 y4, x2, y2, ma, mb]
            simp only [bs]
            by_cases c : cmpI (magV a : Int) (magV b : Int) = 0
            · rw [c, lexC_zero, if_neg (by decide), or_r]
            · rw [if_pos (by simpa using c), lexC_ne c, or_l]
          · have n2 : (sideOf 0 (zV a) == 1) = false := by simpa using hp1
            rw [n2]
            simp only [Bool.false_eq_true, if_false, or_r]
            have hz : zV a = zV b := by
              rw [s0] at hm1 hp1
              rw [s0, s0] at hs
              have ra := cmpI_rng (zV a) 0; have rb := cmpI_rng (zV b) 0
              have za := @cmpI_zero (zV a) 0; have zb' := @cmpI_zero (zV b) 0
              split at hs
              · split at hs
                · omega
                · split at hs <;> omega
              · split at hs
                · split at hs
                  · omega
                  · split at hs
                    · omega
                    · omega
                · rename_i u1 u2
                  rw [if_neg u1, if_neg u2] at hm1 hp1
                  split at hs
                  · omega
                  · split at hs
                    · omega
                    · omega
            rw [cmpI_zero.2 hz, lexC_zero]
      · rw [if_pos (by simpa using hs)]
        have hne : zV a ≠ zV b := fun e => hs (by rw [e])
        rw [lexC_ne (fun e => hne (cmpI_zero.1 e))]
        congr 1
        rw [s0, s0] at hs ⊢
        have ra := cmpI_rng (zV a) 0; have rb := cmpI_rng (zV b) 0
        have la := @cmpI_lt (zV a) 0; have lb := @cmpI_lt (zV b) 0
        have ga' := @cmpI_gt (zV a) 0; have gb' := @cmpI_gt (zV b) 0
        generalize hA : (if zV a = (top : Int) then (2 : Int) else if zV a = -(top : Int) then -2 else cmpI (zV a) 0) = A at *
        generalize hB : (if zV b = (top : Int) then (2 : Int) else if zV b = -(top : Int) then -2 else cmpI (zV b) 0) = B at *
        have hord : (A < B → zV a < zV b) ∧ (B < A → zV b < zV a) := by
          split at hA
          · split at hB
            · omega
            · split at hB <;> omega
          · split at hA
            · split at hB
              · omega
              · split at hB <;> omega
            · split at hB
              · omega
              · split at hB <;> omega
        unfold cmpI
        rcases Int.lt_trichotomy A B with o | o | o
        · have := hord.1 o; rw [if_pos o, if_pos this]
        · exact absurd o hs
        · have := hord.2 o; rw [if_neg (by omega), if_pos o, if_neg (by omega), if_pos this]
    · have ga : grpV a = 1 := by rw [g, gb]
      rw [(zn a (by rw [ga]; decide)).1, (zn b (by rw [gb]; decide)).1, (zn a (by rw [ga]; decide)).2, (zn b (by rw [gb]; decide)).2, text0 a ha (by rw [ga]; decide), text0 b hb (by rw [gb]; decide), ga, gb, rank_n a ha ga, rank_n b hb gb]
      simp only [s1, bs, order_eq]; rfl
    · have ga : grpV a = 2 := by rw [g, gb]
      have t1 : ∀ v, okV v = true → grpV v = 2 → v.Text.length ≤ 100000 := by
        intro v hv gv
        rcases okV_kind hv with k | k | k
        · rw [(okV1 hv k).2]; simp
        · rw [(okV2 hv k).2.1]; simp
        · have := (okV3 hv k).2.2.1; omega
      rw [(zn a (by rw [ga]; decide)).1, (zn b (by rw [gb]; decide)).1, (zn a (by rw [ga]; decide)).2, (zn b (by rw [gb]; decide)).2, ga, gb, texts_eq _ _ (t1 a ha ga) (t1 b hb gb)]
      have e : cmpI (0 : Int) 0 = 0 := rfl
      rw [e, lexC_zero, lexC_zero]
      simp only [s2, bs]; rfl
  · rw [lexC_ne (fun e => g (cmpI_zero.1 e))]
    have ra := s0r (zV a); have rb := s0r (zV b)
    rcases gr a ha with ga | ga | ga <;> rcases gr b hb with gb | gb | gb
    · rw [ga, gb] at g; exact absurd rfl g
    · rw [ga, gb, s1, if_pos (by simp; omega)]; congr 1; unfold cmpI; rw [if_pos (by omega), if_pos (by omega)]
    · rw [ga, gb, s2, if_pos (by simp; omega)]; congr 1; unfold cmpI; rw [if_pos (by omega), if_pos (by omega)]
    · rw [ga, gb, s1, if_pos (by simp; omega)]; congr 1; unfold cmpI; rw [if_neg (by omega), if_pos (by omega), if_neg (by omega), if_pos (by omega)]
    · rw [ga, gb] at g; exact absurd rfl g
    · rw [ga, gb, s1, s2]; rfl
    · rw [ga, gb, s2, if_pos (by simp; omega)]; congr 1; unfold cmpI; rw [if_neg (by omega), if_pos (by omega), if_neg (by omega), if_pos (by omega)]
    · rw [ga, gb, s1, s2]; rfl
    · rw [ga, gb] at g; exact absurd rfl g
end Go.Proofs.YtklfgpdfongaeaaDoor
