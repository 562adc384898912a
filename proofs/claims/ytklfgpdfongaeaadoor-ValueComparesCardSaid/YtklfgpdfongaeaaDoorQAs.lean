/- Values: numbers and floats as they are: the law ValueAs. Plain. -/
import Derived.Test.YtklfgpdfongaeaaDoorQEnc
namespace Go.Proofs.YtklfgpdfongaeaaDoor
open Go
set_option linter.unusedSimpArgs false
set_option linter.unusedVariables false
def vN (n : Int) : api_Value := ⟨1, n, 0, []⟩
def vF (x : UInt64) : api_Value := ⟨2, 0, x, []⟩
theorem inI0 : inI 0 := ⟨by decide, by decide⟩
theorem okN (n : Int) : okV (vN n) = true := rfl
theorem okF5 {x : UInt64} (h : canonF x = x) : okV (vF x) = true := by
  unfold okV vF; simp [h]
theorem canon_self {x : UInt64} (h : clsF x ≠ 5) : canonF x = x := by unfold canonF; rw [if_neg h]
theorem canon_cls (x : UInt64) : canonF (canonF x) = canonF x := by
  unfold canonF
  by_cases h : clsF x = 5
  · rw [if_pos h]; decide +kernel
  · rw [if_neg h, if_neg h]
theorem cmpI_mul {a b : Int} {k : Nat} (hk : 0 < k) : cmpI (a * k) (b * k) = cmpI a b := by
  unfold cmpI
  have hk' : (0 : Int) < k := by omega
  have h1 : a * k < b * k ↔ a < b := ⟨fun h => Int.lt_of_mul_lt_mul_right h (by omega), fun h => Int.mul_lt_mul_of_pos_right h hk'⟩
  have h2 : b * k < a * k ↔ b < a := ⟨fun h => Int.lt_of_mul_lt_mul_right h (by omega), fun h => Int.mul_lt_mul_of_pos_right h hk'⟩
  simp only [h1, h2]
theorem cmpV_of (a b : api_Value) (g : grpV a = grpV b) (t : a.Text = b.Text) : cmpV a b = lexC (cmpI (zV a) (zV b)) (cmpI (rkV a) (rkV b)) := by
  unfold cmpV
  rw [cmpI_zero.2 g, lexC_zero, (cmpX_zero _ _).2 t]
  congr 1
  unfold lexC; split <;> simp_all
theorem nn_cmp (n m : Int) : cmpV (vN n) (vN m) = cmpI n m := by
  have k1 : (vN n).Kind = 1 := rfl
  have k2 : (vN m).Kind = 1 := rfl
  rw [cmpV_of (vN n) (vN m) (by rw [grp1 k1, grp1 k2]) rfl, z1 k1, z1 k2, rk1 k1, rk1 k2]
  show lexC (cmpI (n * unit) (m * unit)) 0 = _
  rw [cmpI_mul unit_pos]
  unfold lexC; split <;> simp_all
theorem ff_cmp (x y : UInt64) (cx : clsF x ≠ 5) (cy : clsF y ≠ 5) (s : Bool) (sx : decide (9223372036854775808 ≤ x.toNat) = s) (sy : decide (9223372036854775808 ≤ y.toNat) = s) :
    cmpV (vF x) (vF y) = if s then cmpI (y.toNat : Int) (x.toNat : Int) else cmpI (x.toNat : Int) (y.toNat : Int) := by
  have g1 : grpV (vF x) = 0 := grp2 rfl cx
  have g2 : grpV (vF y) = 0 := grp2 rfl cy
  rw [cmpV_of (vF x) (vF y) (by rw [g1, g2]) rfl, z2 rfl cx, z2 rfl cy, rk2 rfl cx, rk2 rfl cy]
  have ex : (vF x).Bits = x := rfl
  have ey : (vF y).Bits = y := rfl
  rw [ex, ey, sx, sy]
  have h1 := magF_ix_iff (mant_lt x) (mant_lt y) (expo_le x) (expo_le y) (clsF_ne cx) (clsF_ne cy)
  have h2 := magF_ix_iff (mant_lt y) (mant_lt x) (expo_le y) (expo_le x) (clsF_ne cy) (clsF_ne cx)
  rw [ixb, ixb] at h1 h2
  have lx := UInt64.toNat_lt x; have ly := UInt64.toNat_lt y
  have hr : magF (expo x) (mant x) = magF (expo y) (mant y) → cmpI (if magF (expo x) (mant x) = 0 ∧ 9223372036854775808 ≤ x.toNat then 0 else 2) (if magF (expo y) (mant y) = 0 ∧ 9223372036854775808 ≤ y.toNat then 0 else 2) = 0 := by
    intro e
    rw [cmpI_zero, e]
    have : 9223372036854775808 ≤ x.toNat ↔ 9223372036854775808 ≤ y.toNat := by rw [← sy] at sx; exact decide_eq_decide.1 sx
    simp only [this]
  generalize magF (expo x) (mant x) = M at *
  generalize magF (expo y) (mant y) = N at *
  cases s with
  | true =>
    have sx := of_decide_eq_true sx; have sy := of_decide_eq_true sy
    unfold sgn
    simp only [if_true]
    rcases Nat.lt_trichotomy M N with h | h | h
    · have : x.toNat < y.toNat := by have := h1.1 h; omega
      rw [lexC_ne (by rw [Ne, cmpI_zero]; omega)]
      unfold cmpI; rw [if_neg (by omega), if_pos (by omega), if_neg (by omega), if_pos (by omega)]
    · have e1 : x.toNat = y.toNat := by have : ¬ M < N := by omega
                                        have : ¬ N < M := by omega
                                        omega
      rw [cmpI_zero.2 (by omega), lexC_zero, hr h, cmpI_zero.2 (by omega)]
    · have : y.toNat < x.toNat := by have := h2.1 h; omega
      rw [lexC_ne (by rw [Ne, cmpI_zero]; omega)]
      unfold cmpI; rw [if_pos (by omega), if_pos (by omega)]
  | false =>
    have sx := of_decide_eq_false sx; have sy := of_decide_eq_false sy
    unfold sgn
    simp only [Bool.false_eq_true, if_false]
    rcases Nat.lt_trichotomy M N with h | h | h
    · have : x.toNat < y.toNat := by have := h1.1 h; omega
      rw [lexC_ne (by rw [Ne, cmpI_zero]; omega)]
      unfold cmpI; rw [if_pos (by omega), if_pos (by omega)]
    · have e1 : x.toNat = y.toNat := by have : ¬ M < N := by omega
                                        have : ¬ N < M := by omega
                                        omega
      rw [cmpI_zero.2 (by omega), lexC_zero, hr h, cmpI_zero.2 (by omega)]
    · have : y.toNat < x.toNat := by have := h2.1 h; omega
      rw [lexC_ne (by rw [Ne, cmpI_zero]; omega)]
      unfold cmpI; rw [if_neg (by omega), if_pos (by omega), if_neg (by omega), if_pos (by omega)]
/-! ### the float of a whole number -/
theorem sized_L0 (m0 : Nat) (h0 : 0 < m0) : ∀ (j : Nat) (m x : UInt64), m.toNat + j = 9007199254740992 → 0 < m.toNat → 1023 ≤ x.toNat → x.toNat ≤ 1075 → m.toNat * tp (x.toNat - 1) = m0 * unit → tp (1075 - x.toNat) ≤ m.toNat →
    ∃ m' x', iter (braidlaw05_sized_L0) (m, x) = some (m', x') ∧ m'.toNat * tp (x'.toNat - 1) = m0 * unit ∧ 4503599627370496 ≤ m'.toNat ∧ m'.toNat ≤ 9007199254740992 ∧ 1023 ≤ x'.toNat ∧ x'.toNat ≤ 1075 := by
  intro j
  induction j using Nat.strongRecOn with
  | _ j ih =>
    intro m x hj hm hx hx2 he hk
    by_cases hlt : m.toNat < 4503599627370496
    · have e1 : (m * 2).toNat = 2 * m.toNat := by rw [UInt64.toNat_mul]; show m.toNat * 2 % 18446744073709551616 = _; omega
      have e2 : (x - 1).toNat = x.toNat - 1 := by rw [UInt64.toNat_sub_of_le _ _ (by rw [UInt64.le_iff_toNat_le]; show 1 ≤ x.toNat; omega)]; rfl
      have hF : braidlaw05_sized_L0 (m, x) = some (.inr (m * 2, x - 1)) := by
        unfold braidlaw05_sized_L0
        rw [if_pos (by rw [decide_eq_true_eq, UInt64.lt_iff_toNat_lt]; exact hlt)]
      have hx3 : 1023 < x.toNat := by
        rcases Nat.lt_or_ge 1023 x.toNat with h | h
        · exact h
        · exfalso
          have e : 1075 - x.toNat = 52 := by omega
          rw [e, ← c52tp] at hk; omega
      rw [iter_r hF]
      refine ih (j - m.toNat) (by omega) (m * 2) (x - 1) (by omega) (by omega) (by omega) (by omega) ?_ ?_
      · rw [e1, e2, ← he, Nat.mul_comm 2, Nat.mul_assoc]
        congr 1
        have := tp_add 1 (x.toNat - 1 - 1)
        rw [show 1 + (x.toNat - 1 - 1) = x.toNat - 1 by omega, tp_def 1] at this
        rw [this]
      · rw [e1, e2, show 1075 - (x.toNat - 1) = 1 + (1075 - x.toNat) by omega, tp_add, tp_def 1]; omega
    · refine ⟨m, x, iter_l ?_, he, by omega, by omega, hx, hx2⟩
      unfold braidlaw05_sized_L0
      rw [if_neg (by rw [decide_eq_true_eq, UInt64.lt_iff_toNat_lt]; exact hlt)]
theorem sized_L2 (m0 : Nat) (m x : UInt64) (he : m.toNat * tp (x.toNat - 1) = m0 * unit) (h1 : 4503599627370496 ≤ m.toNat) (h2 : m.toNat ≤ 9007199254740992) (h3 : 1023 ≤ x.toNat) (h4 : x.toNat ≤ 1075) :
    ∃ m' x', iter (braidlaw05_sized_L2) (m, x) = some (m', x') ∧ m'.toNat * tp (x'.toNat - 1) = m0 * unit ∧ 4503599627370496 ≤ m'.toNat ∧ m'.toNat < 9007199254740992 ∧ 1023 ≤ x'.toNat ∧ x'.toNat ≤ 1076 := by
  have stop : ∀ m x : UInt64, m.toNat < 9007199254740992 → iter (braidlaw05_sized_L2) (m, x) = some (m, x) := fun m x h => by
    refine iter_l ?_
    unfold braidlaw05_sized_L2
    rw [if_neg (by rw [decide_eq_true_eq, UInt64.le_iff_toNat_le]; exact Nat.not_le.2 h)]
  by_cases h : m.toNat < 9007199254740992
  · exact ⟨m, x, stop m x h, he, h1, h, h3, by omega⟩
  · have e1 : (m / 2).toNat = 4503599627370496 := by rw [UInt64.toNat_div]; show m.toNat / 2 = _; omega
    have e2 : (x + 1).toNat = x.toNat + 1 := by rw [UInt64.toNat_add]; show (x.toNat + 1) % 18446744073709551616 = _; omega
    have hF : braidlaw05_sized_L2 (m, x) = some (.inr (m / 2, x + 1)) := by
      unfold braidlaw05_sized_L2
      rw [if_pos (by rw [decide_eq_true_eq, UInt64.le_iff_toNat_le]; exact Nat.not_lt.1 h)]
    refine ⟨m / 2, x + 1, by rw [iter_r hF]; exact stop _ _ (by omega), ?_, by omega, by omega, by omega, by omega⟩
    rw [e1, e2, ← he]
    have := tp_add 1 (x.toNat - 1)
    rw [show 1 + (x.toNat - 1) = x.toNat + 1 - 1 by omega, tp_def 1] at this
    rw [this, ← Nat.mul_assoc]
    congr 1; omega
theorem or_bits (s x r : UInt64) (k : Nat) (hs : s.toNat = 9223372036854775808 * k) (hk : k < 2) (hx : x.toNat < 2048) (hr : r.toNat < 4503599627370496) : ((s ||| shl64 x 52) ||| r).toNat = 9223372036854775808 * k + (x.toNat * 4503599627370496 + r.toNat) := by
  rw [UInt64.toNat_or, UInt64.toNat_or, shl64_toNat, hs, show (2 : Nat) ^ min 52 64 = 4503599627370496 from rfl, Nat.mod_eq_of_lt (by omega)]
  have h1 : 9223372036854775808 * k ||| x.toNat * 4503599627370496 = 9223372036854775808 * k + x.toNat * 4503599627370496 := by
    have := Nat.two_pow_add_eq_or_of_lt (i := 63) (b := x.toNat * 4503599627370496) (by omega) k
    exact this.symm
  have h2 : 4503599627370496 * (2048 * k + x.toNat) ||| r.toNat = 4503599627370496 * (2048 * k + x.toNat) + r.toNat := by
    have := Nat.two_pow_add_eq_or_of_lt (i := 52) (b := r.toNat) (by omega) (2048 * k + x.toNat)
    exact this.symm
  rw [h1, show 9223372036854775808 * k + x.toNat * 4503599627370496 = 4503599627370496 * (2048 * k + x.toNat) by omega, h2]; omega
theorem sized_eq (n : Int) (h1 : -9007199254740992 ≤ n) (h2 : n ≤ 9007199254740992) : ∃ b : UInt64, braidlaw05_sized n = some b ∧ clsF b ≠ 5 ∧ zV (vF b) = n * (unit : Int) ∧ rkV (vF b) = 2 := by
  unfold braidlaw05_sized
  by_cases hz : n = 0
  · subst hz
    refine ⟨0, rfl, by decide +kernel, ?_, ?_⟩
    · rw [z2 rfl (by decide +kernel)]; rw [show expo (vF 0).Bits = 0 from rfl, show mant (vF 0).Bits = 0 from rfl]; unfold magF sgn; simp
    · rw [rk2 rfl (by decide +kernel), if_neg (by intro e; have := e.2; exact absurd this (by decide))]
  · obtain ⟨m, hm⟩ : ∃ m : Nat, n.natAbs = m := ⟨_, rfl⟩
    obtain ⟨sg, M, hS, hsg, hM⟩ : ∃ (sg M : UInt64), (some (UInt64.ofInt n) >>= fun y1 => (if decide (n < 0) then some (UInt64.ofInt (w64 (0 - n))) >>= fun y4 => some ((9223372036854775808 : UInt64), y4) else some (0, y1))) = some (sg, M) ∧ sg.toNat = 9223372036854775808 * (if n < 0 then 1 else 0) ∧ M.toNat = m := by
      by_cases hn : n < 0
      · refine ⟨9223372036854775808, UInt64.ofInt (-n), ?_, by rw [if_pos hn]; rfl, by rw [ofInt_toNat]; omega⟩
        rw [decide_eq_true hn]
        simp only [bs, if_true]
        rw [w64_eq (by omega) (by omega), show (0 : Int) - n = -n by omega]
      · refine ⟨0, UInt64.ofInt n, ?_, by rw [if_neg hn]; rfl, by rw [ofInt_toNat]; omega⟩
        rw [decide_eq_false hn]; rfl
    have hS' : ∀ K : UInt64 × UInt64 → Option UInt64, (some (UInt64.ofInt n) >>= fun y1 => (if decide (n < 0) then some (UInt64.ofInt (w64 (0 - n))) >>= fun y4 => some ((9223372036854775808 : UInt64), y4) else some (0, y1)) >>= K) = K (sg, M) := fun K => by
      have : (some (UInt64.ofInt n) >>= fun y1 => (if decide (n < 0) then some (UInt64.ofInt (w64 (0 - n))) >>= fun y4 => some ((9223372036854775808 : UInt64), y4) else some (0, y1)) >>= K) = ((some (UInt64.ofInt n) >>= fun y1 => (if decide (n < 0) then some (UInt64.ofInt (w64 (0 - n))) >>= fun y4 => some ((9223372036854775808 : UInt64), y4) else some (0, y1))) >>= K) := rfl
      rw [this, hS]; rfl
    rw [hS']
    have hM0 : (M == 0) = false := by rw [u64_zero, hM]; simp; omega
    simp only [hM0, Bool.false_eq_true, if_false]
    have e75 : (1075 : UInt64).toNat = 1075 := rfl
    obtain ⟨m1, x1, i1, a1, a2, a3, a4, a5⟩ := sized_L0 m (by omega) (9007199254740992 - m) M 1075 (by omega) (by omega) (by omega) (by omega) (by rw [hM]; rfl) (by rw [e75, hM, tp_def]; show 1 ≤ m; omega)
    obtain ⟨m2, x2, i2, b1, b2, b3, b4, b5⟩ := sized_L2 m m1 x1 a1 a2 a3 a4 a5
    rw [i1]
    simp only [bs]
    rw [i2]
    simp only [bs]
    have hr : (m2 % 4503599627370496).toNat = m2.toNat - 4503599627370496 := by
      rw [UInt64.toNat_mod, c52, Nat.mod_eq_sub_mod (by omega), Nat.mod_eq_of_lt (by omega)]
    have hb := or_bits sg x2 (m2 % 4503599627370496) (if n < 0 then 1 else 0) hsg (by split <;> omega) (by omega) (by omega)
    refine ⟨_, rfl, ?_⟩
    generalize ((sg ||| shl64 x2 52) ||| (m2 % 4503599627370496)) = B at hb
    rw [hr] at hb
    have he : expo B = x2.toNat := by unfold expo; rw [hb]; split <;> omega
    have hmn : mant B = m2.toNat - 4503599627370496 := by unfold mant; rw [hb]; split <;> omega
    have hc : clsF B ≠ 5 := by
      unfold clsF; rw [he, if_neg (by omega), if_neg (by omega)]; decide
    have hmag : magF (expo B) (mant B) = m * unit := by
      rw [he, hmn]; unfold magF; rw [if_neg (by omega), if_neg (by omega), show 4503599627370496 + (m2.toNat - 4503599627370496) = m2.toNat by omega, b1]
    have hpos : m * unit ≠ 0 := Nat.ne_of_gt (Nat.mul_pos (by omega) unit_pos)
    refine ⟨hc, ?_, ?_⟩
    · rw [z2 rfl hc]
      show sgn (decide (9223372036854775808 ≤ B.toNat)) (magF (expo B) (mant B)) = _
      rw [hmag]
      by_cases hn : n < 0
      · rw [if_pos hn] at hb
        rw [decide_eq_true (by omega)]
        unfold sgn; rw [if_pos rfl, Int.natCast_mul, ← Int.neg_mul]; congr 1; omega
      · rw [if_neg hn] at hb
        rw [decide_eq_false (by omega)]
        unfold sgn; rw [if_neg (by simp), Int.natCast_mul]; congr 1; omega
    · rw [rk2 rfl hc]
      show (if magF (expo B) (mant B) = 0 ∧ 9223372036854775808 ≤ B.toNat then (0 : Int) else 2) = 2
      rw [hmag, if_neg (fun e => hpos e.1)]
theorem rk_cases (v : api_Value) : rkV v = 0 ∨ rkV v = 1 ∨ rkV v = 2 := by
  unfold rkV place
  split
  · split
    · exact .inr (.inl rfl)
    · split
      · exact .inl rfl
      · exact .inr (.inr rfl)
  · exact .inl rfl
theorem shr63 (x : UInt64) : (shr64 x 63).toNat = if 9223372036854775808 ≤ x.toNat then 1 else 0 := by
  have := UInt64.toNat_lt x
  rw [shr64_toNat, show (2 : Nat) ^ min 63 64 = 9223372036854775808 from rfl]
  split <;> omega
theorem as_law (n m : Int) (x y : UInt64) (v : api_Value) (wn : inI n) (wm : inI m) (_ : True) (_ : True) (wv : wf_api_Value v) : braidlaw05_ValueAs n m x y v = some true := by
  obtain ⟨-, iv, -, tv, -⟩ := wv
  unfold braidlaw05_ValueAs value_Number
  simp only [bs]
  have hN := fun (a b : Int) (wa : inI a) (wb : inI b) => vCmp_eq (vN a) (vN b) wa wb (by show ([] : List UInt8).length ≤ _; simp) (by show ([] : List UInt8).length ≤ _; simp)
  have h1 : value_Cmp ⟨1, n, 0, []⟩ ⟨1, m, 0, []⟩ = some (cmpI n m, 0) := by
    have := hN n m wn wm
    rw [okN, okN, nn_cmp] at this; exact this
  rw [h1]
  simp only [bs]
  have e1 : (decide (cmpI n m < 0) != decide (n < m)) = false := by simp only [cmpI_lt]; simp
  have e2 : (decide (0 < cmpI n m) != decide (m < n)) = false := by simp only [cmpI_gt]; simp
  rw [e1, e2]
  simp only [bne_self_eq_false, Bool.false_eq_true, if_false, bs, vClass_eq, alive_eq, fit_eq v tv]
  -- two floats
  have h2 : ∀ K : Unit → Option Bool, orRet ((if clsF x != 5 then (if clsF y != 5 then some (shr64 x 63 == shr64 y 63) else some false) else some false) >>= fun s13 =>
      if s13 then value_Float x >>= fun r21 => value_Float y >>= fun r23 => value_Cmp r21 r23 >>= fun r25 =>
        (if shr64 x 63 == 1 then some (decide (y < x), decide (x < y)) else some (decide (x < y), decide (y < x))) >>= fun s29 =>
        if r25.2 != 0 then some (.inl false) else if (decide (r25.1 < 0)) != s29.1 then some (.inl false) else if (decide (0 < r25.1)) != s29.2 then some (.inl false) else some (.inr ())
      else some (.inr ())) K = K () := by
    intro K
    by_cases c1 : clsF x = 5
    · simp [c1, bs, or_r]
    by_cases c2 : clsF y = 5
    · simp [c1, c2, bs, or_r]
    have cx : (clsF x != 5) = true := by simpa using c1
    have cy : (clsF y != 5) = true := by simpa using c2
    rw [cx, cy]
    simp only [if_true, bs]
    cases hs : (shr64 x 63 == shr64 y 63)
    · rfl
    simp only [if_true, vFloat_eq, canon_self c1, canon_self c2, bs]
    have hv := vCmp_eq (vF x) (vF y) inI0 inI0 (by show ([] : List UInt8).length ≤ _; simp) (by show ([] : List UInt8).length ≤ _; simp)
    rw [okF5 (canon_self c1), okF5 (canon_self c2)] at hv
    have hs2 : (shr64 x 63).toNat = (shr64 y 63).toNat := by rw [beq_iff_eq] at hs; rw [hs]
    rw [shr63, shr63] at hs2
    have sy : decide (9223372036854775808 ≤ y.toNat) = decide (9223372036854775808 ≤ x.toNat) := by
      rw [decide_eq_decide]
      by_cases a : 9223372036854775808 ≤ x.toNat <;> by_cases b : 9223372036854775808 ≤ y.toNat <;> simp [a, b] at hs2 ⊢
    rw [ff_cmp x y c1 c2 _ rfl sy] at hv
    have hv' : value_Cmp ⟨2, 0, x, []⟩ ⟨2, 0, y, []⟩ = some (if decide (9223372036854775808 ≤ x.toNat) then cmpI (y.toNat : Int) (x.toNat : Int) else cmpI (x.toNat : Int) (y.toNat : Int), 0) := hv
    rw [hv']
    have s1 : (shr64 x 63 == 1) = decide (9223372036854775808 ≤ x.toNat) := by
      rw [Bool.eq_iff_iff, beq_iff_eq, decide_eq_true_eq, ← UInt64.toNat_inj, shr63]
      show (if 9223372036854775808 ≤ x.toNat then 1 else 0) = 1 ↔ _
      split <;> simp_all
    rw [s1]
    simp only [bs, UInt64.lt_iff_toNat_lt]
    by_cases a : 9223372036854775808 ≤ x.toNat
    · simp only [decide_eq_true a, if_true, bs, cmpI_lt, cmpI_gt, Int.ofNat_lt]
      simp [or_r]
    · simp only [decide_eq_false a, Bool.false_eq_true, if_false, bs, cmpI_lt, cmpI_gt, Int.ofNat_lt]
      simp [or_r]
  rw [h2]
  by_cases l1 : 9007199254740992 < n
  · simp [l1, bs]
  by_cases l2 : n < -9007199254740992
  · simp [l1, l2, bs]
  cases ov : okV v
  · simp [l1, l2, bs]
  simp only [decide_eq_false l1, decide_eq_false l2, Bool.not_true, Bool.false_eq_true, if_false, bs]
  obtain ⟨b, hb, cb, zb, rb⟩ := sized_eq n (by omega) (by omega)
  rw [hb]
  simp only [bs, vFloat_eq, canon_self cb]
  have hc : ∀ (a c : api_Value), okV a = true → okV c = true → inI a.Num → inI c.Num → a.Text.length ≤ 9223372036854775807 → c.Text.length ≤ 9223372036854775807 → value_Cmp a c = some (cmpV a c, 0) := by
    intro a c oa oc ia ic ta tc
    rw [vCmp_eq a c ia ic ta tc, oa, oc]; rfl
  have c1 := hc (vN n) (vF b) (okN n) (okF5 (canon_self cb)) wn inI0 (by show ([] : List UInt8).length ≤ _; simp) (by show ([] : List UInt8).length ≤ _; simp)
  have c2 := hc v (vN n) ov (okN n) iv wn tv (by show ([] : List UInt8).length ≤ _; simp)
  have c3 := hc v (vF b) ov (okF5 (canon_self cb)) iv inI0 tv (by show ([] : List UInt8).length ≤ _; simp)
  have zn : zV (vN n) = n * (unit : Int) := z1 rfl
  have gb : grpV (vF b) = 0 := grp2 rfl cb
  have k1 : cmpV (vN n) (vF b) = -1 := by
    rw [cmpV_of (vN n) (vF b) (by rw [gb]; exact grp1 rfl) rfl, zn, zb, cmpI_zero.2 rfl, lexC_zero, rb, rk1 rfl]; rfl
  rw [k1] at c1
  have c1' : value_Cmp ⟨1, n, 0, []⟩ ⟨2, 0, b, []⟩ = some (-1, 0) := c1
  have c2' : value_Cmp v ⟨1, n, 0, []⟩ = some (cmpV v (vN n), 0) := c2
  have c3' : value_Cmp v ⟨2, 0, b, []⟩ = some (cmpV v (vF b), 0) := c3
  rw [c1', c2', c3']
  simp only [bs, bne_self_eq_false, Bool.false_eq_true, if_false]
  by_cases q1 : v = ⟨1, n, 0, []⟩
  · simp [q1, bs]
  by_cases q2 : v = ⟨2, 0, b, []⟩
  · simp [q1, q2, bs]
  by_cases q3 : v = ⟨2, 0, canonF 9223372036854775808, []⟩
  · simp [q1, q2, q3, bs]
  simp only [decide_eq_false q1, decide_eq_false q2, decide_eq_false q3, Bool.false_eq_true, if_false, bs]
  have n1 : cmpV v (vN n) ≠ 0 := fun e => q1 ((cmpV_eq ov (okN n)).1 e)
  have n2 : cmpV v (vF b) ≠ 0 := fun e => q2 ((cmpV_eq ov (okF5 (canon_self cb))).1 e)
  have k2 : cmpV v (vN n) = cmpV v (vF b) := by
    have ex : ∀ w : api_Value, cmpV v w = lexC (cmpI (grpV v) (grpV w)) (lexC (cmpI (zV v) (zV w)) (lexC (cmpI (rkV v) (rkV w)) (cmpX v.Text w.Text))) := fun w => rfl
    have ea : cmpV v (vN n) = lexC (cmpI (grpV v) 0) (lexC (cmpI (zV v) (n * (unit : Int))) (lexC (cmpI (rkV v) 1) (cmpX v.Text []))) := by
      rw [ex, grp1 (show (vN n).Kind = 1 from rfl), zn, rk1 (show (vN n).Kind = 1 from rfl)]; rfl
    have eb : cmpV v (vF b) = lexC (cmpI (grpV v) 0) (lexC (cmpI (zV v) (n * (unit : Int))) (lexC (cmpI (rkV v) 2) (cmpX v.Text []))) := by
      rw [ex, gb, zb, rb]; rfl
    rw [ea] at n1; rw [eb] at n2; rw [ea, eb]
    by_cases g : cmpI (grpV v) 0 = 0
    · rw [g, lexC_zero] at n1 n2
      rw [g, lexC_zero, lexC_zero]
      by_cases z : cmpI (zV v) (n * (unit : Int)) = 0
      · rw [z, lexC_zero] at n1 n2
        rw [z, lexC_zero, lexC_zero]
        have t0 : cmpX v.Text [] = 0 := by
          rcases grp_cases ov with h | h | h
          · exact (cmpX_zero _ _).2 h.2.1
          · exact (cmpX_zero _ _).2 h.2
          · rw [h] at g; exact absurd g (by decide)
        rw [t0] at n1 n2
        rw [t0]
        rcases rk_cases v with r | r | r
        · rw [r]; rfl
        · rw [r] at n1; exact absurd rfl n1
        · rw [r] at n2; exact absurd rfl n2
      · rw [lexC_ne z, lexC_ne z]
    · rw [lexC_ne g, lexC_ne g]
  simp [k2, n2]
end Go.Proofs.YtklfgpdfongaeaaDoor
