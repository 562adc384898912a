/- Values: the program's comparison is that of the keys; the law ValueOrder. Plain. -/
import Derived.Test.YtklfgpdfongaeaaDoorQKey
namespace Go.Proofs.YtklfgpdfongaeaaDoor
open Go
set_option linter.unusedSimpArgs false
set_option linter.unusedVariables false
theorem cmpI_nat2 (a b : Nat) : cmpN a b = cmpI (a : Int) (b : Int) := (cmpI_nat a b).symm
theorem cmpI_scale {a b k : Nat} (hk : 0 < k) : cmpI ((a * k : Nat) : Int) ((b * k : Nat) : Int) = cmpI (a : Int) (b : Int) := by
  unfold cmpI
  have h1 : ((a * k : Nat) : Int) < ((b * k : Nat) : Int) ↔ (a : Int) < (b : Int) := by
    rw [Int.ofNat_lt, Int.ofNat_lt]; exact ⟨fun h => Nat.lt_of_mul_lt_mul_right h, fun h => Nat.mul_lt_mul_of_pos_right h hk⟩
  have h2 : ((b * k : Nat) : Int) < ((a * k : Nat) : Int) ↔ (b : Int) < (a : Int) := by
    rw [Int.ofNat_lt, Int.ofNat_lt]; exact ⟨fun h => Nat.lt_of_mul_lt_mul_right h, fun h => Nat.mul_lt_mul_of_pos_right h hk⟩
  simp only [h1, h2]
theorem cmpX_eq : ∀ (x y : List UInt8), Lib.compareBytes x y = cmpX x y
  | [], [] => rfl
  | [], _ :: _ => rfl
  | _ :: _, [] => rfl
  | a :: x, b :: y => by
    have ih := cmpX_eq x y
    rw [Lib.compareBytes, cmpX, ih]
    unfold lexC cmpI
    simp only [UInt8.lt_iff_toNat_lt]
    by_cases h1 : a.toNat < b.toNat
    · simp [h1]
    · by_cases h2 : b.toNat < a.toNat
      · simp [h1, h2]
      · simp [h1, h2]
theorem flag_eq (b : Bool) : value_flag b = some (if b then 1 else 0) := by cases b <;> rfl
theorem lz_eq (m : UInt64) : math_bits_LeadingZeros64 m = some ((64 : Int) - bitLen m.toNat) := by
  unfold math_bits_LeadingZeros64
  rw [len64_eq]
  simp only [bs]
  have := bitLen_le m.toNat 64 (by have := UInt64.toNat_lt m; omega)
  rw [w64_eq (by omega) (by omega)]
theorem u64_zero (m : UInt64) : (m == 0) = decide (m.toNat = 0) := by
  rw [Bool.eq_iff_iff, beq_iff_eq, decide_eq_true_eq, ← UInt64.toNat_inj]; rfl
theorem larger_eq {a b : value_number} {na nb ia ib : Bool} {M N : Nat} (ha : NumOk a na ia M) (hb : NumOk b nb ib N) : value_larger a b = some (cmpI (M : Int) (N : Int)) := by
  unfold value_larger
  rw [ha.hinf, hb.hinf]
  cases ia with
  | true =>
    cases ib with
    | true =>
      rw [ha.big rfl, hb.big rfl, flag_eq]
      simp only [if_true, bs, cmpInt_eq]
      rw [cmpI_zero.2 rfl, cmpI_zero.2 rfl]
    | false =>
      have h1 := hb.lt
      rw [ha.big rfl, flag_eq, flag_eq]
      simp only [if_true, bs, cmpInt_eq, Bool.false_eq_true, if_false]
      unfold cmpI
      rw [if_neg (by decide), if_pos (by decide), if_neg (by omega), if_pos (by omega)]
  | false =>
    cases ib with
    | true =>
      have h1 := ha.lt
      rw [hb.big rfl, flag_eq, flag_eq]
      simp only [if_true, bs, cmpInt_eq, Bool.false_eq_true, if_false]
      unfold cmpI
      rw [if_pos (by decide), if_pos (by omega)]
    | false =>
      have hA := ha.mag rfl
      have hB := hb.mag rfl
      simp only [bs, Bool.false_eq_true, if_false]
      rw [u64_zero, u64_zero]
      by_cases h0 : a.m.toNat = 0
      · rw [decide_eq_true h0]
        simp only [bs, if_true, cmpU_eq]
        rw [cmpI_nat2, ← hA, ← hB, h0, Nat.zero_mul]
        have := @cmpI_scale 0 b.m.toNat (tp (b.e + 1074).toNat) (tp_pos _)
        rw [Nat.zero_mul] at this
        rw [this]
      by_cases h1 : b.m.toNat = 0
      · rw [decide_eq_false h0, decide_eq_true h1]
        simp only [bs, if_true, cmpU_eq, Bool.false_eq_true, if_false]
        rw [cmpI_nat2, ← hA, ← hB, h1, Nat.zero_mul]
        have := @cmpI_scale a.m.toNat 0 (tp (a.e + 1074).toNat) (tp_pos _)
        rw [Nat.zero_mul] at this
        rw [this]
      · rw [decide_eq_false h0, decide_eq_false h1]
        simp only [bs, Bool.false_eq_true, if_false]
        have la := ha.lo rfl; have ua := ha.hi rfl; have lb := hb.lo rfl; have ub := hb.hi rfl
        have a1 := bitLen_le a.m.toNat 64 (by have := UInt64.toNat_lt a.m; omega)
        have b1 := bitLen_le b.m.toNat 64 (by have := UInt64.toNat_lt b.m; omega)
        have a2 := bitLen_lt a.m.toNat; have b2 := bitLen_lt b.m.toNat
        have a3 := bitLen_ge a.m.toNat h0; have b3 := bitLen_ge b.m.toNat h1
        have a4 : 0 < bitLen a.m.toNat := by unfold bitLen; rw [if_neg h0]; omega
        have b4 : 0 < bitLen b.m.toNat := by unfold bitLen; rw [if_neg h1]; omega
        rw [len64_eq, len64_eq]
        simp only [bs, cmpInt_eq]
        generalize hLa : bitLen a.m.toNat = La at *
        generalize hLb : bitLen b.m.toNat = Lb at *
        rw [w64_eq (by omega) (by omega), w64_eq (by omega) (by omega)]
        obtain ⟨ea, hea⟩ : ∃ ea : Nat, (a.e + 1074).toNat = ea := ⟨_, rfl⟩
        obtain ⟨eb, heb⟩ : ∃ eb : Nat, (b.e + 1074).toNat = eb := ⟨_, rfl⟩
        rw [hea] at hA; rw [heb] at hB
        have key : ∀ (x y lx ly ex ey X Y : Nat), x < 2 ^ lx → 2 ^ (ly - 1) ≤ y → 0 < ly → x * tp ex = X → y * tp ey = Y → lx + ex < ly + ey → X < Y := by
          intro x y lx ly ex ey X Y k1 k2 k3 k4 k5 k6
          rw [← k4, ← k5]
          have t1 : x * tp ex < tp (lx + ex) := by rw [tp_add]; exact Nat.mul_lt_mul_of_pos_right (by rw [tp_def]; exact k1) (tp_pos _)
          have t2 : tp (ly - 1 + ey) ≤ y * tp ey := by rw [tp_add]; exact Nat.mul_le_mul_right _ (by rw [tp_def]; exact k2)
          have t3 : tp (lx + ex) ≤ tp (ly - 1 + ey) := tp_mono (by omega)
          omega
        by_cases hc : (La : Int) + a.e = (Lb : Int) + b.e
        · rw [cmpI_zero.2 hc]
          rw [if_neg (by simp), lz_eq, lz_eq, hLa, hLb]
          simp only [bs]
          rw [chk_true (by omega), chk_true (by omega)]
          simp only [bs, cmpU_eq]
          rw [cmpI_nat2, shl64_toNat, shl64_toNat, show ((64 : Int) - (La : Int)).toNat = 64 - La by omega, show ((64 : Int) - (Lb : Int)).toNat = 64 - Lb by omega, Nat.min_eq_left (by omega), Nat.min_eq_left (by omega)]
          have sh : ∀ (m L : Nat), m < 2 ^ L → L ≤ 64 → m * 2 ^ (64 - L) < 18446744073709551616 := by
            intro m L k1 k2
            have : m * 2 ^ (64 - L) < 2 ^ L * 2 ^ (64 - L) := Nat.mul_lt_mul_of_pos_right k1 (Nat.pow_pos (by decide))
            rw [← Nat.pow_add, show L + (64 - L) = 64 by omega] at this
            exact this
          rw [Nat.mod_eq_of_lt (sh _ _ a2 a1), Nat.mod_eq_of_lt (sh _ _ b2 b1)]
          have sc : ∀ (m L e X : Nat), m * tp e = X → L ≤ 64 → m * 2 ^ (64 - L) * tp (L + e) = X * tp 64 := by
            intro m L e X k1 k2
            rw [← k1, ← tp_def, Nat.mul_assoc, Nat.mul_assoc, ← tp_add, ← tp_add]; congr 2; omega
          have s1 := sc _ La ea M hA a1
          have s2 := sc _ Lb eb N hB b1
          have e1 : Lb + eb = La + ea := by omega
          rw [e1] at s2
          rw [← @cmpI_scale M N (tp 64) (tp_pos _), ← s1, ← s2, cmpI_scale (tp_pos _)]
        · rw [if_pos (by simp only [bne_iff_ne]; exact fun e => hc (cmpI_zero.1 e))]
          unfold cmpI
          by_cases hlt : (La : Int) + a.e < (Lb : Int) + b.e
          · have := key _ _ La Lb ea eb M N a2 b3 b4 hA hB (by omega)
            rw [if_pos hlt, if_pos (by omega)]
          · have := key _ _ Lb La eb ea N M b2 a3 a4 hB hA (by omega)
            rw [if_neg hlt, if_pos (by omega), if_neg (by omega), if_pos (by omega)]
/-! ### comparing numbers -/
def sgW (s : Bool) (M : Nat) : Int := if M = 0 then 0 else if s then -1 else 1
theorem zeroN_eq {n : value_number} {s i : Bool} {M : Nat} (h : NumOk n s i M) : value_numbers_1 n = some (decide (M = 0)) := by
  unfold value_numbers_1
  have h1 := h.zero
  rw [u64_zero]
  have e : n.m = 0 ↔ n.m.toNat = 0 := by rw [← UInt64.toNat_inj]; rfl
  rw [e] at h1
  by_cases h0 : n.m.toNat = 0
  · rw [decide_eq_true h0, if_pos rfl]
    cases he : n.end_
    · rw [decide_eq_true (h1.1 ⟨h0, he⟩)]; rfl
    · rw [decide_eq_false (fun e => by have := (h1.2 e).2; rw [he] at this; cases this)]; rfl
  · rw [decide_eq_false h0, if_neg (by simp), decide_eq_false (fun e => h0 (h1.2 e).1)]
theorem way_eq {n : value_number} {s i : Bool} {M : Nat} (h : NumOk n s i M) : value_numbers_2 n = some (sgW s M) := by
  unfold value_numbers_2
  rw [zeroN_eq h]
  simp only [bs, h.hneg, flag_eq]
  unfold sgW
  by_cases h0 : M = 0
  · simp [h0]
  · simp only [h0, decide_false, Bool.false_eq_true, if_false]
    cases s <;> decide
theorem place_eq {n : value_number} {i : Bool} {v : api_Value} (h : NumOk n (negV v) i (magV v)) : value_numbers_3 v n = some (place v) := by
  unfold value_numbers_3 place
  rw [zeroN_eq h]
  simp only [bs, h.hneg, flag_eq]
  by_cases hk : v.Kind = 1
  · simp [hk]
  · have hk' : (v.Kind == 1) = false := by simpa using hk
    rw [hk', if_neg hk]
    simp only [Bool.false_eq_true, if_false]
    by_cases h0 : magV v = 0
    · rw [decide_eq_true h0, if_pos rfl]
      cases negV v <;> simp [h0] <;> decide
    · rw [decide_eq_false h0, if_neg (by simp), if_neg (fun e => h0 e.1)]; rfl
theorem way_lex (s t : Bool) (M N : Nat) : (if cmpI (sgW s M) (sgW t N) = 0 then sgW s M * cmpI (M : Int) (N : Int) else cmpI (sgW s M) (sgW t N)) = cmpI (sgn s M) (sgn t N) := by
  unfold sgW sgn
  by_cases h0 : M = 0 <;> by_cases h1 : N = 0 <;> cases s <;> cases t <;> simp [h0, h1, cmpI] <;> (repeat' split) <;> omega
theorem numbers_eq (a b : api_Value) (ia : inI a.Num) (ib : inI b.Num) (na : a.Kind ≠ 1 → expo a.Bits = 2047 → mant a.Bits = 0) (nb : b.Kind ≠ 1 → expo b.Bits = 2047 → mant b.Bits = 0) :
    value_numbers a b = some (lexC (cmpI (sgn (negV a) (magV a)) (sgn (negV b) (magV b))) (cmpI (place a) (place b))) := by
  obtain ⟨x, hx, ox⟩ := of_ok a ia na
  obtain ⟨y, hy, oy⟩ := of_ok b ib nb
  unfold value_numbers
  rw [hx, hy]
  simp only [bs]
  rw [way_eq ox, way_eq oy, larger_eq ox oy, place_eq ox, place_eq oy]
  simp only [bs, cmpInt_eq]
  rw [← way_lex]
  have hr := cmpI_rng (magV a : Int) (magV b : Int)
  by_cases h1 : cmpI (sgW (negV a) (magV a)) (sgW (negV b) (magV b)) = 0
  · rw [h1, if_neg (by simp), if_pos rfl]
    by_cases h2 : cmpI (magV a : Int) (magV b : Int) = 0
    · rw [h2, if_neg (by simp), Int.mul_zero, lexC_zero]
    · rw [if_pos (by simpa using h2)]
      have h3 : sgW (negV a) (magV a) * cmpI (magV a : Int) (magV b : Int) ≠ 0 := by
        intro e
        rcases Int.mul_eq_zero.1 e with e | e
        · rw [e] at h1
          have e2 := cmpI_zero.1 h1
          have z : ∀ (s : Bool) (M : Nat), sgW s M = 0 → M = 0 := by
            intro s M h; unfold sgW at h; by_cases h0 : M = 0
            · exact h0
            · rw [if_neg h0] at h; cases s <;> simp at h
          exact h2 (cmpI_zero.2 (by rw [z _ _ e, z _ _ e2.symm]))
        · exact h2 e
      rw [lexC_ne h3]
      congr 1
      have hs : -1 ≤ sgW (negV a) (magV a) ∧ sgW (negV a) (magV a) ≤ 1 := by unfold sgW; split <;> (try split) <;> omega
      have : sgW (negV a) (magV a) = -1 ∨ sgW (negV a) (magV a) = 0 ∨ sgW (negV a) (magV a) = 1 := by omega
      rcases this with e | e | e <;> rw [e] <;> rw [w64_eq (by omega) (by omega)]
  · rw [if_pos (by simpa using h1), if_neg h1, lexC_ne h1]
theorem canon5 {a : UInt64} (h : canonF a = a) (c : clsF a ≠ 5) : expo a = 2047 → mant a = 0 := clsF_ne c
theorem group_eq (v : api_Value) : value_group v = some (grpV v) := by
  unfold value_group grpV
  rw [vClass_eq]
  simp only [bs]
  by_cases h3 : v.Kind = 3
  · simp [h3]
  by_cases h2 : v.Kind = 2
  · by_cases c : clsF v.Bits = 5 <;> simp [h2, c]
  · simp [h3, h2]
theorem grp_cases {v : api_Value} (h : okV v = true) : (grpV v = 0 ∧ v.Text = [] ∧ (v.Kind ≠ 1 → expo v.Bits = 2047 → mant v.Bits = 0)) ∨ (grpV v = 1 ∧ v.Text = []) ∨ grpV v = 2 := by
  rcases okV_kind h with k | k | k
  · exact .inl ⟨grp1 k, (okV1 h k).2, fun e => absurd k e⟩
  · by_cases c : clsF v.Bits = 5
    · exact .inr (.inl ⟨grp2n k c, (okV2 h k).2.1⟩)
    · exact .inl ⟨grp2 k c, (okV2 h k).2.1, fun _ => clsF_ne c⟩
  · exact .inr (.inr (grp3 k))
theorem vCmp_eq (a b : api_Value) (ia : inI a.Num) (ib : inI b.Num) (la : a.Text.length ≤ 9223372036854775807) (lb : b.Text.length ≤ 9223372036854775807) :
    value_Cmp a b = some (if okV a && okV b then (cmpV a b, 0) else (0, 8)) := by
  unfold value_Cmp
  rw [vCheck_eq a la, vCheck_eq b lb]
  cases ha : okV a
  · rfl
  cases hb : okV b
  · rfl
  simp only [bs, if_true, Bool.and_self, group_eq, cmpInt_eq]
  rw [if_neg (by simp), if_neg (by simp)]
  unfold cmpV strings_Compare internal_bytealg_CompareString
  simp only [bs, cmpX_eq]
  have rk0 : ∀ v, grpV v ≠ 0 → zV v = 0 ∧ rkV v = 0 := fun v h => by unfold zV rkV; rw [if_neg h, if_neg h]; exact ⟨rfl, rfl⟩
  have rk1 : ∀ v, grpV v = 0 → zV v = sgn (negV v) (magV v) ∧ rkV v = place v := fun v h => by unfold zV rkV; rw [if_pos h, if_pos h]; exact ⟨rfl, rfl⟩
  by_cases g : grpV a = grpV b
  · rw [cmpI_zero.2 g, lexC_zero]
    rcases grp_cases ha with ⟨g0, t0, n0⟩ | ⟨g0, t0⟩ | g0 <;> rcases grp_cases hb with ⟨g1, t1, n1⟩ | ⟨g1, t1⟩ | g1
    · rw [numbers_eq a b ia ib n0 n1, (rk1 a g0).1, (rk1 b g1).1, (rk1 a g0).2, (rk1 b g1).2, t0, t1, g0, g1]
      have e : ∀ x : Int, lexC x (cmpX [] []) = x := fun x => by unfold lexC cmpX; split <;> simp_all
      rw [e]; rfl
    · rw [g0, g1] at g; exact absurd g (by decide)
    · rw [g0, g1] at g; exact absurd g (by decide)
    · rw [g0, g1] at g; exact absurd g (by decide)
    · rw [(rk0 a (by rw [g0]; decide)).1, (rk0 b (by rw [g1]; decide)).1, (rk0 a (by rw [g0]; decide)).2, (rk0 b (by rw [g1]; decide)).2, t0, t1, g0, g1]
      rfl
    · rw [g0, g1] at g; exact absurd g (by decide)
    · rw [g0, g1] at g; exact absurd g (by decide)
    · rw [g0, g1] at g; exact absurd g (by decide)
    · rw [(rk0 a (by rw [g0]; decide)).1, (rk0 b (by rw [g1]; decide)).1, (rk0 a (by rw [g0]; decide)).2, (rk0 b (by rw [g1]; decide)).2, g0, g1]
      have e : cmpI (0 : Int) 0 = 0 := rfl
      rw [e, lexC_zero, lexC_zero]; rfl
  · have e : (grpV a != grpV b) = true := by simpa using g
    rw [e, if_pos rfl]
    simp only [bs, if_true]
    rw [lexC_ne (fun e => g (cmpI_zero.1 e))]
end Go.Proofs.YtklfgpdfongaeaaDoor
