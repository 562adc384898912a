/- Conversions, arrays as slices. Over any program. -/
import Derived.Test.YtklfgpdfongaeaaKA
import Derived.Laws.BytesArg
namespace Go.Proofs.Ytklfgpdfongaeaa
open Go Go.RowKit
set_option linter.unusedSimpArgs false
set_option linter.unusedVariables false
theorem relL_u8 {S : Blk} {w : World} : ∀ {b : List UInt8} {xs : List Value}, relL u8R S w xs b → xs = b.map fun c => .int .u8 (c.toNat : Int)
  | [], xs, h => by simp only [relL] at h; simp [h]
  | c :: b, xs, h => by
    obtain ⟨u, d, rfl, h1, h2⟩ := h
    have h1 : u = [.int .u8 (c.toNat : Int)] := h1
    rw [relL_u8 h2, h1]; rfl
theorem max_u8 (a b : UInt8) : (if (a.toNat : Int) < (b.toNat : Int) then (b.toNat : Int) else (a.toNat : Int)) = ((max a b).toNat : Int) := by
  rw [show max a b = if a ≤ b then b else a from rfl]
  by_cases h : a ≤ b
  · have := UInt8.le_iff_toNat_le.1 h
    rw [if_pos h]; split <;> omega
  · have : ¬ a.toNat ≤ b.toNat := fun k => h (UInt8.le_iff_toNat_le.2 k)
    rw [if_neg h]; split <;> omega
theorem min_u8 (a b : UInt8) : (if (b.toNat : Int) < (a.toNat : Int) then (b.toNat : Int) else (a.toNat : Int)) = ((min a b).toNat : Int) := by
  rw [show min a b = if a ≤ b then a else b from rfl]
  by_cases h : a ≤ b
  · have := UInt8.le_iff_toNat_le.1 h
    rw [if_pos h]; split <;> omega
  · have : ¬ a.toNat ≤ b.toNat := fun k => h (UInt8.le_iff_toNat_le.2 k)
    rw [if_neg h]; split <;> omega
theorem max_u32 (a b : UInt32) : (if (a.toNat : Int) < (b.toNat : Int) then (b.toNat : Int) else (a.toNat : Int)) = ((max a b).toNat : Int) := by
  rw [show max a b = if a ≤ b then b else a from rfl]
  by_cases h : a ≤ b
  · have := UInt32.le_iff_toNat_le.1 h
    rw [if_pos h]; split <;> omega
  · have : ¬ a.toNat ≤ b.toNat := fun k => h (UInt32.le_iff_toNat_le.2 k)
    rw [if_neg h]; split <;> omega
theorem min_u32 (a b : UInt32) : (if (b.toNat : Int) < (a.toNat : Int) then (b.toNat : Int) else (a.toNat : Int)) = ((min a b).toNat : Int) := by
  rw [show min a b = if a ≤ b then a else b from rfl]
  by_cases h : a ≤ b
  · have := UInt32.le_iff_toNat_le.1 h
    rw [if_pos h]; split <;> omega
  · have : ¬ a.toNat ≤ b.toNat := fun k => h (UInt32.le_iff_toNat_le.2 k)
    rw [if_neg h]; split <;> omega
theorem max_u64 (a b : UInt64) : (if (a.toNat : Int) < (b.toNat : Int) then (b.toNat : Int) else (a.toNat : Int)) = ((max a b).toNat : Int) := by
  rw [show max a b = if a ≤ b then b else a from rfl]
  by_cases h : a ≤ b
  · have := UInt64.le_iff_toNat_le.1 h
    rw [if_pos h]; split <;> omega
  · have : ¬ a.toNat ≤ b.toNat := fun k => h (UInt64.le_iff_toNat_le.2 k)
    rw [if_neg h]; split <;> omega
theorem min_u64 (a b : UInt64) : (if (b.toNat : Int) < (a.toNat : Int) then (b.toNat : Int) else (a.toNat : Int)) = ((min a b).toNat : Int) := by
  rw [show min a b = if a ≤ b then a else b from rfl]
  by_cases h : a ≤ b
  · have := UInt64.le_iff_toNat_le.1 h
    rw [if_pos h]; split <;> omega
  · have : ¬ a.toNat ≤ b.toNat := fun k => h (UInt64.le_iff_toNat_le.2 k)
    rw [if_neg h]; split <;> omega
section
variable {α : Type} {C : World → World → Prop} {P : Program} {Γ : Ctx} {l : Slots} {res : Res} {d : Tmp} {ty : TypeId} {pos : String} {after : Array Edge} {g : Option (Nat × Bool)}
/-- bytes as a string -/
theorem cvBS {ws : List Nat} [LC C res ws] {b : List UInt8} {x : Operand} {S D e : TypeId} (hx : opE l x = some (.rd (sliceR u8R) b)) (hS : P.underlying S = some (.slice e)) (he : P.underlying e = some (.int .u8)) (hD : P.underlying D = some .string) :
    Run C P Γ l res ⟨some d, .convert S D x, ty, pos, after, g⟩ (.rd strR b) := fun a w ha => by
  obtain ⟨cs, ⟨p, c, xs, k1, k2, k3, k4⟩, k5⟩ := ha.vl hx
  subst k1
  have k5 : a.eval x = .slice p b.length c := k5
  have hxs := relL_u8 k3
  refine ⟨.string (strOfNums (b.map fun c => (c.toNat : Int))), fun w' hw' => ?_, _, ⟨_, rfl, ?_⟩, rfl⟩
  · have : (convert S D (.slice p b.length c)).run P w' = .ok (.string (strOfNums (b.map fun c => (c.toNat : Int)))) w' := by
      rcases k2.2 with ⟨hv, h0⟩ | ⟨b', o, sp, cap, hv, g1, g2, g4, g3⟩
      · simp only [Value.slice.injEq] at hv
        obtain ⟨rfl, _, rfl⟩ := hv
        have : b = [] := List.length_eq_zero_iff.1 h0
        subst this
        exact run_convert_bytes_nil w' S e hS he _ _ D hD
      · simp only [Value.slice.injEq, true_and] at hv
        obtain ⟨rfl, rfl⟩ := hv
        by_cases hb : b = []
        · subst hb
          have h1 := run_convert_bytes_string (P := P) w' S D e (some ⟨b', o, sp⟩) 0 c hS he hD
          have h2 := run_bytesToString (P := P) w' ⟨b', o, sp⟩ 0 c [] rfl
          rw [List.length_nil, h1, h2]; rfl
        · have hne : xs ≠ [] := by rw [hxs]; simpa using hb
          obtain rfl := g4.resolve_left hne
          refine run_convert_bytes_arg w' S e hS he b' o _ _ _ (by simp) (fun i hi => ?_) D hD
          have hc : xs[i]? = some (.int .u8 ((b.map fun c => (c.toNat : Int)).getD i 0)) := by rw [hxs]; simp [hi]
          have := g3 i _ hc
          unfold World.cell? at this ⊢
          rw [CW.shr hw' (k4 hne b' rfl)]; exact this
    simp [execOp, k5, this]
  · rw [strOfNums_data, List.map_map]
    have : ((fun n : Int => UInt8.ofNat n.toNat) ∘ fun c : UInt8 => (c.toNat : Int)) = id := by funext c; simp
    rw [this, List.map_id]
theorem B.max {x y : Operand} {at_ : Array TypeId} {a b : UInt8} (hx : opE l x = some (.rd u8R a)) (hy : opE l y = some (.rd u8R b)) : Run C P Γ l res ⟨some d, .call ⟨.builtin .max, #[x, y], at_⟩, ty, pos, after, g⟩ (.rd u8R (Max.max a b)) := maxi hx hy (max_u8 a b)
theorem B.min {x y : Operand} {at_ : Array TypeId} {a b : UInt8} (hx : opE l x = some (.rd u8R a)) (hy : opE l y = some (.rd u8R b)) : Run C P Γ l res ⟨some d, .call ⟨.builtin .min, #[x, y], at_⟩, ty, pos, after, g⟩ (.rd u8R (Min.min a b)) := mini hx hy (min_u8 a b)
theorem W.max {x y : Operand} {at_ : Array TypeId} {a b : UInt32} (hx : opE l x = some (.rd u32R a)) (hy : opE l y = some (.rd u32R b)) : Run C P Γ l res ⟨some d, .call ⟨.builtin .max, #[x, y], at_⟩, ty, pos, after, g⟩ (.rd u32R (Max.max a b)) := maxi hx hy (max_u32 a b)
theorem W.min {x y : Operand} {at_ : Array TypeId} {a b : UInt32} (hx : opE l x = some (.rd u32R a)) (hy : opE l y = some (.rd u32R b)) : Run C P Γ l res ⟨some d, .call ⟨.builtin .min, #[x, y], at_⟩, ty, pos, after, g⟩ (.rd u32R (Min.min a b)) := mini hx hy (min_u32 a b)
theorem U.max {x y : Operand} {at_ : Array TypeId} {a b : UInt64} (hx : opE l x = some (.rd u64R a)) (hy : opE l y = some (.rd u64R b)) : Run C P Γ l res ⟨some d, .call ⟨.builtin .max, #[x, y], at_⟩, ty, pos, after, g⟩ (.rd u64R (Max.max a b)) := maxi hx hy (max_u64 a b)
theorem U.min {x y : Operand} {at_ : Array TypeId} {a b : UInt64} (hx : opE l x = some (.rd u64R a)) (hy : opE l y = some (.rd u64R b)) : Run C P Γ l res ⟨some d, .call ⟨.builtin .min, #[x, y], at_⟩, ty, pos, after, g⟩ (.rd u64R (Min.min a b)) := mini hx hy (min_u64 a b)
/-- an array as a slice -/
theorem cutV {R : Rep α} {n : Nat} {v : Vector α n} {x : Operand} {T e : TypeId} {z : Value} {by_ : Nat} (hx : opE l x = some (.rp (arrR n R) v)) (hT : P.underlying T = some (.array n e)) (hE : TI P e z R.sz by_) (hn : Nat.blt 0 n = true) (hm : Nat.ble n 281474976710656 = true) (h0 : Nat.blt 0 R.sz = true) :
    Run C P Γ l res ⟨some d, .slice T x none none none, ty, pos, after, g⟩ (.rd (sliceR R) v.toList) := fun a w ha => by
  have hn : 0 < n := Eq.mp Nat.blt_eq hn
  have hm : n ≤ 281474976710656 := Nat.le_of_ble_eq_true hm
  obtain ⟨b, o, cs, h1, h2, h3, h4⟩ := ha.vl hx
  have hlen : v.toList.length = n := by simp
  refine ⟨.slice (some ⟨b, o, none⟩) v.toList.length n, fun w' _ => ?_, _, ⟨some ⟨b, o, none⟩, n, cs, rfl, ⟨by rw [hlen]; exact (relL.len (show relL R _ w cs v.toList from h3)).trans (by rw [hlen]), .inr ⟨b, o, none, n, rfl, by omega, by unfold maxLen; omega, .inr rfl, h4⟩⟩, h3, fun _ bb hbb => by cases hbb; exact h2⟩, rfl⟩
  rw [hlen]
  have hne : ¬ n = 0 := by omega
  simp [execOp, h1, Instr.sliceAt, run_underlying hT, Instr.sliceBounds, Instr.sureAddr, run_sizeOf hE, Sem.run_pure, Addr.add]
end
end Go.Proofs.Ytklfgpdfongaeaa
