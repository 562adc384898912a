/- Values: orders, the key of a value, what it says. Plain. -/
import Derived.Test.YtklfgpdfongaeaaDoorQOrd
namespace Go.Proofs.YtklfgpdfongaeaaDoor
open Go
set_option linter.unusedSimpArgs false
set_option linter.unusedVariables false
/-! ### orders that are given as a comparison -/
structure OrdC {α : Type} (c : α → α → Int) : Prop where
  rng : ∀ a b, -1 ≤ c a b ∧ c a b ≤ 1
  anti : ∀ a b, c b a = - c a b
  trans : ∀ a b d, c a b ≤ 0 → c b d ≤ 0 → c a d ≤ 0
def lexC (x y : Int) : Int := if x = 0 then y else x
theorem lexC_zero {y : Int} : lexC 0 y = y := by simp [lexC]
theorem lexC_ne {x y : Int} (h : x ≠ 0) : lexC x y = x := by simp [lexC, h]
theorem OrdC.lex {α : Type} {c d : α → α → Int} (h : OrdC c) (k : OrdC d) : OrdC (fun a b => lexC (c a b) (d a b)) := by
  refine ⟨fun a b => ?_, fun a b => ?_, fun a b e => ?_⟩
  · have := h.rng a b; have := k.rng a b; unfold lexC; split <;> assumption
  · have := h.anti a b; have := k.anti a b
    show lexC (c b a) (d b a) = - lexC (c a b) (d a b)
    unfold lexC
    split <;> split <;> omega
  · have a1 := h.anti a b; have a2 := h.anti b e; have a3 := h.anti a e
    have t1 := h.trans a b e; have t2 := h.trans e a b; have t3 := h.trans b e a
    have t4 := k.trans a b e
    show lexC (c a b) (d a b) ≤ 0 → lexC (c b e) (d b e) ≤ 0 → lexC (c a e) (d a e) ≤ 0
    unfold lexC
    intro p q
    split at p <;> split at q <;> split <;> omega
theorem OrdC.on {α β : Type} {c : α → α → Int} (h : OrdC c) (f : β → α) : OrdC (fun a b => c (f a) (f b)) := ⟨fun a b => h.rng _ _, fun a b => h.anti _ _, fun a b d => h.trans _ _ _⟩
theorem cmpI_lt {a b : Int} : cmpI a b < 0 ↔ a < b := by unfold cmpI; split <;> (try split) <;> omega
theorem cmpI_gt {a b : Int} : 0 < cmpI a b ↔ b < a := by unfold cmpI; split <;> (try split) <;> omega
theorem cmpI_zero {a b : Int} : cmpI a b = 0 ↔ a = b := by unfold cmpI; split <;> (try split) <;> omega
theorem cmpI_le {a b : Int} : cmpI a b ≤ 0 ↔ a ≤ b := by unfold cmpI; split <;> (try split) <;> omega
theorem cmpI_rng (a b : Int) : -1 ≤ cmpI a b ∧ cmpI a b ≤ 1 := by unfold cmpI; split <;> (try split) <;> omega
theorem ordI : OrdC cmpI := by
  refine ⟨cmpI_rng, fun a b => ?_, fun a b d => ?_⟩
  · unfold cmpI; split <;> (try split) <;> (try split) <;> omega
  · rw [cmpI_le, cmpI_le, cmpI_le]; omega
/-! ### texts -/
def cmpX : List UInt8 → List UInt8 → Int
  | [], [] => 0
  | [], _ :: _ => -1
  | _ :: _, [] => 1
  | a :: x, b :: y => lexC (cmpI (a.toNat : Int) (b.toNat : Int)) (cmpX x y)
theorem cmpX_zero : ∀ (x y : List UInt8), cmpX x y = 0 ↔ x = y
  | [], [] => by simp [cmpX]
  | [], _ :: _ => by simp [cmpX]
  | _ :: _, [] => by simp [cmpX]
  | a :: x, b :: y => by
    have ih := cmpX_zero x y
    unfold cmpX
    by_cases h : cmpI (a.toNat : Int) (b.toNat : Int) = 0
    · rw [h, lexC_zero, ih]
      rw [cmpI_zero] at h
      have : a = b := UInt8.toNat_inj.1 (by omega)
      simp [this]
    · rw [lexC_ne h]
      rw [cmpI_zero] at h
      have : a ≠ b := fun e => h (by rw [e])
      constructor
      · intro e; exact absurd (cmpI_zero.1 e) h
      · intro e; exact absurd (List.cons.inj e).1 this
theorem cmpX_rng : ∀ (x y : List UInt8), -1 ≤ cmpX x y ∧ cmpX x y ≤ 1
  | [], [] => by simp [cmpX]
  | [], _ :: _ => by simp [cmpX]
  | _ :: _, [] => by simp [cmpX]
  | a :: x, b :: y => by
    have ih := cmpX_rng x y
    have := cmpI_rng (a.toNat : Int) (b.toNat : Int)
    unfold cmpX lexC; split <;> assumption
theorem cmpX_anti : ∀ (x y : List UInt8), cmpX y x = - cmpX x y
  | [], [] => by simp [cmpX]
  | [], _ :: _ => by simp [cmpX]
  | _ :: _, [] => by simp [cmpX]
  | a :: x, b :: y => by
    have ih := cmpX_anti x y
    have := ordI.anti (a.toNat : Int) (b.toNat : Int)
    unfold cmpX lexC; split <;> split <;> omega
theorem cmpX_trans : ∀ (x y z : List UInt8), cmpX x y ≤ 0 → cmpX y z ≤ 0 → cmpX x z ≤ 0
  | [], _, [] => by simp [cmpX]
  | [], _, _ :: _ => by simp [cmpX]
  | _ :: _, [], _ => by simp [cmpX]
  | a :: x, b :: y, [] => by simp [cmpX]
  | a :: x, b :: y, d :: z => by
    have ih := cmpX_trans x y z
    have h1 := @cmpI_zero (a.toNat : Int) (b.toNat : Int); have h2 := @cmpI_zero (b.toNat : Int) (d.toNat : Int); have h3 := @cmpI_zero (a.toNat : Int) (d.toNat : Int)
    have h4 := @cmpI_le (a.toNat : Int) (b.toNat : Int); have h5 := @cmpI_le (b.toNat : Int) (d.toNat : Int); have h6 := @cmpI_le (a.toNat : Int) (d.toNat : Int)
    unfold cmpX lexC
    intro p q
    split at p <;> split at q <;> split <;> omega
theorem ordX : OrdC cmpX := ⟨cmpX_rng, cmpX_anti, cmpX_trans⟩
/-! ### numbers of floats rise with their bits -/
def ix (x m : Nat) : Nat := x * 4503599627370496 + m
theorem c52tp : 4503599627370496 = tp 52 := by rw [tp_def]
theorem magF_hi {x m : Nat} (hx : 0 < x) (hx2 : x < 2047) (hm : m < 4503599627370496) : magF x m < 4503599627370496 * tp x := by
  unfold magF
  rw [if_neg (by omega), if_neg (by omega)]
  have e : tp x = 2 * tp (x - 1) := by
    have := tp_add 1 (x - 1)
    rw [show 1 + (x - 1) = x by omega] at this
    rw [this, tp_def 1]
  have := Nat.mul_lt_mul_of_pos_right (show 4503599627370496 + m < 4503599627370496 * 2 by omega) (tp_pos (x - 1))
  rw [e, ← Nat.mul_assoc]; exact this
theorem magF_lo {y k : Nat} (hy : 0 < y) (hy2 : y ≤ 2047) : 4503599627370496 * tp (y - 1) ≤ magF y k := by
  unfold magF
  by_cases h : y = 2047
  · rw [if_pos h, c52tp, ← tp_add]; exact tp_mono (by omega)
  · rw [if_neg h, if_neg (by omega)]
    exact Nat.mul_le_mul_right _ (by omega)
theorem magF_x {x y m k : Nat} (h : x < y) (hy : y ≤ 2047) (hm : m < 4503599627370496) : magF x m < magF y k := by
  refine Nat.lt_of_lt_of_le ?_ (magF_lo (k := k) (by omega) hy)
  by_cases hx : x = 0
  · unfold magF
    rw [if_neg (by omega), if_pos hx]
    exact Nat.lt_of_lt_of_le hm (Nat.le_mul_of_pos_right _ (tp_pos _))
  · exact Nat.lt_of_lt_of_le (magF_hi (by omega) (by omega) hm) (Nat.mul_le_mul_left _ (tp_mono (by omega)))
theorem magF_m {x m k : Nat} (h : m < k) (hx : x < 2047) : magF x m < magF x k := by
  unfold magF
  have hx' : ¬ x = 2047 := by omega
  rw [if_neg hx', if_neg hx']
  by_cases h0 : x = 0
  · rw [if_pos h0, if_pos h0]; exact h
  · rw [if_neg h0, if_neg h0]; exact Nat.mul_lt_mul_of_pos_right (by omega) (tp_pos _)
theorem magF_ix {x m y k : Nat} (h : ix x m < ix y k) (hm : m < 4503599627370496) (hk : k < 4503599627370496) (hx : x ≤ 2047) (hy : y ≤ 2047) (nm : x = 2047 → m = 0) (nk : y = 2047 → k = 0) : magF x m < magF y k := by
  unfold ix at h
  by_cases e : x = y
  · subst e
    refine magF_m (by omega) ?_
    rcases Nat.lt_or_ge x 2047 with h2 | h2
    · exact h2
    · exfalso
      have := nm (by omega); have := nk (by omega); omega
  · exact magF_x (by omega) hy hm
theorem magF_ix_iff {x m y k : Nat} (hm : m < 4503599627370496) (hk : k < 4503599627370496) (hx : x ≤ 2047) (hy : y ≤ 2047) (nm : x = 2047 → m = 0) (nk : y = 2047 → k = 0) : magF x m < magF y k ↔ ix x m < ix y k := by
  constructor
  · intro h
    rcases Nat.lt_trichotomy (ix x m) (ix y k) with h1 | h1 | h1
    · exact h1
    · exfalso
      unfold ix at h1
      have h2 : x = y := by omega
      have h3 : m = k := by omega
      rw [h2, h3] at h; omega
    · have := magF_ix h1 hk hm hy hx nk nm; omega
  · intro h; exact magF_ix h hm hk hx hy nm nk
theorem magF_inj {x m y k : Nat} (h : magF x m = magF y k) (hm : m < 4503599627370496) (hk : k < 4503599627370496) (hx : x ≤ 2047) (hy : y ≤ 2047) (nm : x = 2047 → m = 0) (nk : y = 2047 → k = 0) : ix x m = ix y k := by
  have h1 := magF_ix_iff hm hk hx hy nm nk
  have h2 := magF_ix_iff hk hm hy hx nk nm
  omega
theorem ixb (a : UInt64) : ix (expo a) (mant a) = a.toNat % 9223372036854775808 := by
  unfold ix expo mant; omega
/-! ### the key of a value -/
def grpV (v : api_Value) : Int := if v.Kind = 3 then 2 else if v.Kind = 2 ∧ clsF v.Bits = 5 then 1 else 0
def sgn (b : Bool) (M : Nat) : Int := if b then -(M : Int) else (M : Int)
def zV (v : api_Value) : Int := if grpV v = 0 then sgn (negV v) (magV v) else 0
def place (v : api_Value) : Int := if v.Kind = 1 then 1 else if magV v = 0 ∧ negV v = true then 0 else 2
def rkV (v : api_Value) : Int := if grpV v = 0 then place v else 0
def cmpV (a b : api_Value) : Int := lexC (cmpI (grpV a) (grpV b)) (lexC (cmpI (zV a) (zV b)) (lexC (cmpI (rkV a) (rkV b)) (cmpX a.Text b.Text)))
theorem ordV : OrdC cmpV := (ordI.on grpV).lex ((ordI.on zV).lex ((ordI.on rkV).lex (ordX.on api_Value.Text)))
theorem cmpV_zero {a b : api_Value} : cmpV a b = 0 ↔ grpV a = grpV b ∧ zV a = zV b ∧ rkV a = rkV b ∧ a.Text = b.Text := by
  have h1 := @cmpI_zero (grpV a) (grpV b); have h2 := @cmpI_zero (zV a) (zV b); have h3 := @cmpI_zero (rkV a) (rkV b); have h4 := cmpX_zero a.Text b.Text
  unfold cmpV
  by_cases e1 : grpV a = grpV b
  · rw [h1.2 e1, lexC_zero]
    by_cases e2 : zV a = zV b
    · rw [h2.2 e2, lexC_zero]
      by_cases e3 : rkV a = rkV b
      · rw [h3.2 e3, lexC_zero, h4]; simp [e1, e2, e3]
      · rw [lexC_ne (fun e => e3 (h3.1 e)), h3]; simp [e3]
    · rw [lexC_ne (fun e => e2 (h2.1 e)), h2]; simp [e2]
  · rw [lexC_ne (fun e => e1 (h1.1 e)), h1]; simp [e1]
theorem sgn_inj {s t : Bool} {M N : Nat} (h : sgn s M = sgn t N) : M = N ∧ (M ≠ 0 → s = t) := by
  unfold sgn at h
  cases s <;> cases t <;> simp at h ⊢ <;> omega
theorem clsF_ne {a : UInt64} (h : clsF a ≠ 5) : expo a = 2047 → mant a = 0 := by
  intro h1
  unfold clsF at h
  rw [if_pos h1] at h
  by_cases h2 : mant a = 0
  · exact h2
  · rw [if_neg h2] at h; exact absurd rfl h
theorem unit_mul {a b : Nat} (h : a * unit = b * unit) : a = b := Nat.eq_of_mul_eq_mul_right unit_pos h
theorem bits_eq {a b : UInt64} (h : ix (expo a) (mant a) = ix (expo b) (mant b)) (hs : decide (9223372036854775808 ≤ a.toNat) = decide (9223372036854775808 ≤ b.toNat)) : a = b := by
  rw [ixb, ixb] at h
  have := UInt64.toNat_lt a; have := UInt64.toNat_lt b
  rw [decide_eq_decide] at hs
  exact UInt64.toNat_inj.1 (by omega)
theorem okV1 {v : api_Value} (h : okV v = true) (k : v.Kind = 1) : v.Bits = 0 ∧ v.Text = [] := by
  unfold okV at h; rw [if_pos k] at h; simpa using h
theorem okV2 {v : api_Value} (h : okV v = true) (k : v.Kind = 2) : v.Num = 0 ∧ v.Text = [] ∧ canonF v.Bits = v.Bits := by
  unfold okV at h; rw [if_neg (by rw [k]; decide), if_pos k] at h; simp at h; exact ⟨h.1.1, h.1.2, h.2⟩
theorem okV3 {v : api_Value} (h : okV v = true) (k : v.Kind = 3) : v.Num = 0 ∧ v.Bits = 0 ∧ v.Text.length ≤ 30 ∧ v.Text.all okb = true := by
  unfold okV at h; rw [if_neg (by rw [k]; decide), if_neg (by rw [k]; decide), if_pos k] at h
  simp only [Bool.and_eq_true, decide_eq_true_eq] at h
  exact ⟨h.1.1.1, h.1.1.2, h.1.2, h.2⟩
theorem okV_kind {v : api_Value} (h : okV v = true) : v.Kind = 1 ∨ v.Kind = 2 ∨ v.Kind = 3 := by
  by_cases h1 : v.Kind = 1
  · exact .inl h1
  by_cases h2 : v.Kind = 2
  · exact .inr (.inl h2)
  by_cases h3 : v.Kind = 3
  · exact .inr (.inr h3)
  · unfold okV at h; simp [h1, h2, h3] at h
theorem val_ext {a b : api_Value} (h1 : a.Kind = b.Kind) (h2 : a.Num = b.Num) (h3 : a.Bits = b.Bits) (h4 : a.Text = b.Text) : a = b := by
  cases a; cases b; simp only at h1 h2 h3 h4; subst h1 h2 h3 h4; rfl
theorem grp1 {v : api_Value} (k : v.Kind = 1) : grpV v = 0 := by unfold grpV; simp [k]
theorem grp3 {v : api_Value} (k : v.Kind = 3) : grpV v = 2 := by unfold grpV; simp [k]
theorem grp2n {v : api_Value} (k : v.Kind = 2) (c : clsF v.Bits = 5) : grpV v = 1 := by unfold grpV; simp [k, c]
theorem grp2 {v : api_Value} (k : v.Kind = 2) (c : clsF v.Bits ≠ 5) : grpV v = 0 := by unfold grpV; simp [k, c]
theorem z1 {v : api_Value} (k : v.Kind = 1) : zV v = v.Num * (unit : Int) := by
  unfold zV; rw [if_pos (grp1 k)]
  unfold negV magV sgn
  rw [if_pos k, if_pos k]
  by_cases h : v.Num < 0
  · rw [decide_eq_true h, if_pos rfl, Int.natCast_mul, ← Int.neg_mul]; congr 1; omega
  · rw [decide_eq_false h, if_neg (by simp), Int.natCast_mul]; congr 1; omega
theorem z2 {v : api_Value} (k : v.Kind = 2) (c : clsF v.Bits ≠ 5) : zV v = sgn (decide (9223372036854775808 ≤ v.Bits.toNat)) (magF (expo v.Bits) (mant v.Bits)) := by
  unfold zV; rw [if_pos (grp2 k c)]
  unfold negV magV
  rw [if_neg (by rw [k]; decide), if_neg (by rw [k]; decide)]
theorem rk1 {v : api_Value} (k : v.Kind = 1) : rkV v = 1 := by unfold rkV place; rw [if_pos (grp1 k), if_pos k]
theorem rk2 {v : api_Value} (k : v.Kind = 2) (c : clsF v.Bits ≠ 5) : rkV v = if magF (expo v.Bits) (mant v.Bits) = 0 ∧ 9223372036854775808 ≤ v.Bits.toNat then 0 else 2 := by
  have hk : ¬ v.Kind = 1 := by rw [k]; decide
  unfold rkV place; rw [if_pos (grp2 k c), if_neg hk]
  unfold negV magV
  rw [if_neg hk, if_neg hk]
  simp only [decide_eq_true_eq]
theorem expo_le (a : UInt64) : expo a ≤ 2047 := by have := expo_lt a; omega
/-- valid values that the order cannot tell apart are the same -/
theorem cmpV_eq {a b : api_Value} (ha : okV a = true) (hb : okV b = true) : cmpV a b = 0 ↔ a = b := by
  constructor
  · intro h
    obtain ⟨g, z, r, t⟩ := cmpV_zero.1 h
    rcases okV_kind ha with k | k | k <;> rcases okV_kind hb with l | l | l
    · rw [z1 k, z1 l] at z
      have : a.Num = b.Num := Int.eq_of_mul_eq_mul_right (by have := unit_pos; omega) z
      exact val_ext (by rw [k, l]) this (by rw [(okV1 ha k).1, (okV1 hb l).1]) t
    · exfalso
      by_cases c : clsF b.Bits = 5
      · rw [grp1 k, grp2n l c] at g; exact absurd g (by decide)
      · rw [rk1 k, rk2 l c] at r; split at r <;> exact absurd r (by decide)
    · rw [grp1 k, grp3 l] at g; exact absurd g (by decide)
    · exfalso
      by_cases c : clsF a.Bits = 5
      · rw [grp1 l, grp2n k c] at g; exact absurd g (by decide)
      · rw [rk1 l, rk2 k c] at r; split at r <;> exact absurd r (by decide)
    · by_cases c : clsF a.Bits = 5 <;> by_cases d : clsF b.Bits = 5
      · have e1 := (okV2 ha k).2.2; have e2 := (okV2 hb l).2.2
        unfold canonF at e1 e2
        rw [if_pos c] at e1; rw [if_pos d] at e2
        exact val_ext (by rw [k, l]) (by rw [(okV2 ha k).1, (okV2 hb l).1]) (by rw [← e1, ← e2]) t
      · rw [grp2n k c, grp2 l d] at g; exact absurd g (by decide)
      · rw [grp2 k c, grp2n l d] at g; exact absurd g (by decide)
      · rw [z2 k c, z2 l d] at z
        obtain ⟨z3, z4⟩ := sgn_inj z
        have i1 := magF_inj z3 (mant_lt _) (mant_lt _) (expo_le _) (expo_le _) (clsF_ne c) (clsF_ne d)
        refine val_ext (by rw [k, l]) (by rw [(okV2 ha k).1, (okV2 hb l).1]) (bits_eq i1 ?_) t
        by_cases h0 : magF (expo a.Bits) (mant a.Bits) = 0
        · rw [rk2 k c, rk2 l d, ← z3, h0] at r
          simp only [true_and] at r
          by_cases x : 9223372036854775808 ≤ a.Bits.toNat <;> by_cases y : 9223372036854775808 ≤ b.Bits.toNat <;> simp [x, y] at r ⊢
        · exact z4 h0
    · exfalso
      by_cases c : clsF a.Bits = 5
      · rw [grp3 l, grp2n k c] at g; exact absurd g (by decide)
      · rw [grp3 l, grp2 k c] at g; exact absurd g (by decide)
    · rw [grp1 l, grp3 k] at g; exact absurd g (by decide)
    · exfalso
      by_cases c : clsF b.Bits = 5
      · rw [grp3 k, grp2n l c] at g; exact absurd g (by decide)
      · rw [grp3 k, grp2 l c] at g; exact absurd g (by decide)
    · exact val_ext (by rw [k, l]) (by rw [(okV3 ha k).1, (okV3 hb l).1]) (by rw [(okV3 ha k).2.1, (okV3 hb l).2.1]) t
  · intro h
    subst h
    have := ordV.anti a a
    omega
end Go.Proofs.YtklfgpdfongaeaaDoor
