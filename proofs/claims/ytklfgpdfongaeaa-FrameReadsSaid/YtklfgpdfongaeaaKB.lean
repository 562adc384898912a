/- Conversions, arrays as slices. Over any program. -/
import Derived.Test.YtklfgpdfongaeaaKA
import Derived.Laws.BytesArg
import Derived.Laws.RangeString
namespace Go.Proofs.Ytklfgpdfongaeaa
open Go Go.RowKit
set_option linter.unusedSimpArgs false
set_option linter.unusedVariables false
theorem relL_u8 {S : Blk} {w : World} : ∀ {b : List UInt8} {xs : List Value}, relL u8R S w xs b → xs = b.map fun c => .int .u8 (c.toNat : Int)
  | [], xs, h => by simp only [relL] at h; simp [h]
  | c :: b, xs, h => by
    obtain ⟨u, d, rfl, h1, h2⟩ := h
    have h1 : u = [.int .u8 (c.toNat : Int)] := h1
    rw [relL_u8 h2, h1]; rfl
theorem max_u8 (a b : UInt8) : (if (a.toNat : Int) < (b.toNat : Int) then (b.toNat : Int) else (a.toNat : Int)) = ((max a b).toNat : Int) := by
  rw [show max a b = if a ≤ b then b else a from rfl]
  by_cases h : a ≤ b
  · have := UInt8.le_iff_toNat_le.1 h
    rw [if_pos h]; split <;> omega
  · have : ¬ a.toNat ≤ b.toNat := fun k => h (UInt8.le_iff_toNat_le.2 k)
    rw [if_neg h]; split <;> omega
theorem min_u8 (a b : UInt8) : (if (b.toNat : Int) < (a.toNat : Int) then (b.toNat : Int) else (a.toNat : Int)) = ((min a b).toNat : Int) := by
  rw [show min a b = if a ≤ b then a else b from rfl]
  by_cases h : a ≤ b
  · have := UInt8.le_iff_toNat_le.1 h
    rw [if_pos h]; split <;> omega
  · have : ¬ a.toNat ≤ b.toNat := fun k => h (UInt8.le_iff_toNat_le.2 k)
    rw [if_neg h]; split <;> omega
theorem max_u32 (a b : UInt32) : (if (a.toNat : Int) < (b.toNat : Int) then (b.toNat : Int) else (a.toNat : Int)) = ((max a b).toNat : Int) := by
  rw [show max a b = if a ≤ b then b else a from rfl]
  by_cases h : a ≤ b
  · have := UInt32.le_iff_toNat_le.1 h
    rw [if_pos h]; split <;> omega
  · have : ¬ a.toNat ≤ b.toNat := fun k => h (UInt32.le_iff_toNat_le.2 k)
    rw [if_neg h]; split <;> omega
theorem min_u32 (a b : UInt32) : (if (b.toNat : Int) < (a.toNat : Int) then (b.toNat : Int) else (a.toNat : Int)) = ((min a b).toNat : Int) := by
  rw [show min a b = if a ≤ b then a else b from rfl]
  by_cases h : a ≤ b
  · have := UInt32.le_iff_toNat_le.1 h
    rw [if_pos h]; split <;> omega
  · have : ¬ a.toNat ≤ b.toNat := fun k => h (UInt32.le_iff_toNat_le.2 k)
    rw [if_neg h]; split <;> omega
theorem max_u64 (a b : UInt64) : (if (a.toNat : Int) < (b.toNat : Int) then (b.toNat : Int) else (a.toNat : Int)) = ((max a b).toNat : Int) := by
  rw [show max a b = if a ≤ b then b else a from rfl]
  by_cases h : a ≤ b
  · have := UInt64.le_iff_toNat_le.1 h
    rw [if_pos h]; split <;> omega
  · have : ¬ a.toNat ≤ b.toNat := fun k => h (UInt64.le_iff_toNat_le.2 k)
    rw [if_neg h]; split <;> omega
theorem min_u64 (a b : UInt64) : (if (b.toNat : Int) < (a.toNat : Int) then (b.toNat : Int) else (a.toNat : Int)) = ((min a b).toNat : Int) := by
  rw [show min a b = if a ≤ b then a else b from rfl]
  by_cases h : a ≤ b
  · have := UInt64.le_iff_toNat_le.1 h
    rw [if_pos h]; split <;> omega
  · have : ¬ a.toNat ≤ b.toNat := fun k => h (UInt64.le_iff_toNat_le.2 k)
    rw [if_neg h]; split <;> omega
section
variable {α : Type} {C : World → World → Prop} {P : Program} {Γ : Ctx} {l : Slots} {res : Res} {d : Tmp} {ty : TypeId} {pos : String} {after : Array Edge} {g : Option (Nat × Bool)}
/-- bytes as a string -/
theorem cvBS {ws : List Nat} [LC C res ws] {b : List UInt8} {x : Operand} {S D e : TypeId} (hx : opE l x = some (.rd (sliceR u8R) b)) (hS : P.underlying S = some (.slice e)) (he : P.underlying e = some (.int .u8)) (hD : P.underlying D = some .string) :
    Run C P Γ l res ⟨some d, .convert S D x, ty, pos, after, g⟩ (.rd strR b) := fun a w ha => by
  obtain ⟨cs, ⟨p, c, xs, k1, k2, k3, k4⟩, k5⟩ := ha.vl hx
  subst k1
  have k5 : a.eval x = .slice p b.length c := k5
  have hxs := relL_u8 k3
  refine ⟨.string (strOfNums (b.map fun c => (c.toNat : Int))), fun w' hw' => ?_, _, ⟨_, rfl, ?_⟩, rfl⟩
  · have : (convert S D (.slice p b.length c)).run P w' = .ok (.string (strOfNums (b.map fun c => (c.toNat : Int)))) w' := by
      rcases k2.2 with ⟨hv, h0⟩ | ⟨b', o, sp, cap, hv, g1, g2, g4, g3⟩
      · simp only [Value.slice.injEq] at hv
        obtain ⟨rfl, _, rfl⟩ := hv
        have : b = [] := List.length_eq_zero_iff.1 h0
        subst this
        exact run_convert_bytes_nil w' S e hS he _ _ D hD
      · simp only [Value.slice.injEq, true_and] at hv
        obtain ⟨rfl, rfl⟩ := hv
        by_cases hb : b = []
        · subst hb
          have h1 := run_convert_bytes_string (P := P) w' S D e (some ⟨b', o, sp⟩) 0 c hS he hD
          have h2 := run_bytesToString (P := P) w' ⟨b', o, sp⟩ 0 c [] rfl
          rw [List.length_nil, h1, h2]; rfl
        · have hne : xs ≠ [] := by rw [hxs]; simpa using hb
          obtain rfl := g4.resolve_left hne
          refine run_convert_bytes_arg w' S e hS he b' o _ _ _ (by simp) (fun i hi => ?_) D hD
          have hc : xs[i]? = some (.int .u8 ((b.map fun c => (c.toNat : Int)).getD i 0)) := by rw [hxs]; simp [hi]
          have := g3 i _ hc
          unfold World.cell? at this ⊢
          rw [CW.shr hw' (k4 hne b' rfl)]; exact this
    simp [execOp, k5, this]
  · rw [strOfNums_data, List.map_map]
    have : ((fun n : Int => UInt8.ofNat n.toNat) ∘ fun c : UInt8 => (c.toNat : Int)) = id := by funext c; simp
    rw [this, List.map_id]
theorem B.max {x y : Operand} {at_ : Array TypeId} {a b : UInt8} (hx : opE l x = some (.rd u8R a)) (hy : opE l y = some (.rd u8R b)) : Run C P Γ l res ⟨some d, .call ⟨.builtin .max, #[x, y], at_⟩, ty, pos, after, g⟩ (.rd u8R (Max.max a b)) := maxi hx hy (max_u8 a b)
theorem B.min {x y : Operand} {at_ : Array TypeId} {a b : UInt8} (hx : opE l x = some (.rd u8R a)) (hy : opE l y = some (.rd u8R b)) : Run C P Γ l res ⟨some d, .call ⟨.builtin .min, #[x, y], at_⟩, ty, pos, after, g⟩ (.rd u8R (Min.min a b)) := mini hx hy (min_u8 a b)
theorem W.max {x y : Operand} {at_ : Array TypeId} {a b : UInt32} (hx : opE l x = some (.rd u32R a)) (hy : opE l y = some (.rd u32R b)) : Run C P Γ l res ⟨some d, .call ⟨.builtin .max, #[x, y], at_⟩, ty, pos, after, g⟩ (.rd u32R (Max.max a b)) := maxi hx hy (max_u32 a b)
theorem W.min {x y : Operand} {at_ : Array TypeId} {a b : UInt32} (hx : opE l x = some (.rd u32R a)) (hy : opE l y = some (.rd u32R b)) : Run C P Γ l res ⟨some d, .call ⟨.builtin .min, #[x, y], at_⟩, ty, pos, after, g⟩ (.rd u32R (Min.min a b)) := mini hx hy (min_u32 a b)
theorem U.max {x y : Operand} {at_ : Array TypeId} {a b : UInt64} (hx : opE l x = some (.rd u64R a)) (hy : opE l y = some (.rd u64R b)) : Run C P Γ l res ⟨some d, .call ⟨.builtin .max, #[x, y], at_⟩, ty, pos, after, g⟩ (.rd u64R (Max.max a b)) := maxi hx hy (max_u64 a b)
theorem U.min {x y : Operand} {at_ : Array TypeId} {a b : UInt64} (hx : opE l x = some (.rd u64R a)) (hy : opE l y = some (.rd u64R b)) : Run C P Γ l res ⟨some d, .call ⟨.builtin .min, #[x, y], at_⟩, ty, pos, after, g⟩ (.rd u64R (Min.min a b)) := mini hx hy (min_u64 a b)
/-- an array as a slice -/
theorem cutV {R : Rep α} {n : Nat} {v : Vector α n} {x : Operand} {T e : TypeId} {z : Value} {by_ : Nat} (hx : opE l x = some (.rp (arrR n R) v)) (hT : P.underlying T = some (.array n e)) (hE : TI P e z R.sz by_) (hn : Nat.blt 0 n = true) (hm : Nat.ble n 281474976710656 = true) (h0 : Nat.blt 0 R.sz = true) :
    Run C P Γ l res ⟨some d, .slice T x none none none, ty, pos, after, g⟩ (.rd (sliceR R) v.toList) := fun a w ha => by
  have hn : 0 < n := Eq.mp Nat.blt_eq hn
  have hm : n ≤ 281474976710656 := Nat.le_of_ble_eq_true hm
  obtain ⟨b, o, cs, h1, h2, h3, h4⟩ := ha.vl hx
  have hlen : v.toList.length = n := by simp
  refine ⟨.slice (some ⟨b, o, none⟩) v.toList.length n, fun w' _ => ?_, _, ⟨some ⟨b, o, none⟩, n, cs, rfl, ⟨by rw [hlen]; exact (relL.len (show relL R _ w cs v.toList from h3)).trans (by rw [hlen]), .inr ⟨b, o, none, n, rfl, by omega, by unfold maxLen; omega, .inr rfl, h4⟩⟩, h3, fun _ bb hbb => by cases hbb; exact h2⟩, rfl⟩
  rw [hlen]
  have hne : ¬ n = 0 := by omega
  simp [execOp, h1, Instr.sliceAt, run_underlying hT, Instr.sliceBounds, Instr.sureAddr, run_sizeOf hE, Sem.run_pure, Addr.add]
end
/-! ### the runes of a string -/
/-- what is read at a place of a string: the rune, and its width -/
def runeAt (b : List UInt8) (q : Nat) : Nat × Nat := Utf8.decode ⟨b.toArray⟩ q
/-- an iterator over a string -/
def Cont.iter (b : List UInt8) (q : Nat) : Cont where
  nil _ _ _ := False
  nilm _ h := h
  nilb h := h.elim
  rel S w v o := ∃ g s, v = .pointer (some ⟨g, 0, none⟩) ∧ o = .stringIter s q ∧ s.data.toList = b
  mono k h := h
section
variable {ρ : Type} {P : Program} {Γ : Ctx} {l : Slots} {res : Res} {m1 m2 : Option ρ} {os rest : List Oper} {N : ρ → Exit → Act → World → Prop} {d : Tmp} {ty : TypeId} {pos : String} {after : Array Edge} {g : Option (Nat × Bool)}
theorem rng (r : Nat) {T : TypeId} {x : Operand} {b : List UInt8} (hx : opE l x = some (.rd strR b)) (hT : P.underlying T = some .string) : Eff P Γ l res ⟨some d, .range T x, ty, pos, after, g⟩ r (fun v => (v, .iter b 0)) := fun a w ha => by
  obtain ⟨s, h1, rfl⟩ := rd_str (ha.vl hx)
  have hrun : (execOp a.eval ⟨some d, .range T x, ty, pos, after, g⟩).run P w = .ok (.value (.pointer (some ⟨w.heap.size, 0, none⟩))) (w.alloc (.stringIter s 0)) := by
    simp [execOp, h1, run_range_string w T s hT, World.iter]
  exact ⟨_, _, hrun, ha.upd r (c := .iter s.data.toList 0) (new_gr w (.stringIter s 0)) (by simp) (fun b hb => .inr (by simp [rblk] at hb; omega)) (v := .pointer (some ⟨w.heap.size, 0, none⟩))
    (fun S' k' => .inr ⟨w.heap.size, _, rfl, by show (w.heap.push (Obj.stringIter s 0))[w.heap.size]? = _; simp, _, s, rfl, rfl, rfl⟩), rfl, none, new_gr w _, by simp⟩
theorem lNext {x : Operand} {v : Value} {b : List UInt8} {q : Nat} (r : Nat) (hn : Nat.blt d Γ.n = true) (hx : opE l x = some (.val v)) (hr : lr res r = some (v, .iter b q))
    (ht : q < b.length → GL P os (Sta Γ ((d, .tup [.rd boolR true, .rd i64R (q : Int), .rd i32R ((runeAt b q).1 : Int)]) :: l) ((r, some (v, .iter b (q + (runeAt b q).2))) :: res)) rest N m1)
    (hf : ¬ q < b.length → GL P os (Sta Γ ((d, .tup [.rd boolR false]) :: l) res) rest N m2) :
    GL P os (Sta Γ l res) (⟨some d, .next x true, ty, pos, after, none⟩ :: rest) N (if q < b.length then m1 else m2) := fun a w ha ρ hm => by
  have h1 := (ha.vl hx).1
  rcases ha.conts r v _ hr with h2 | ⟨b', o, h2, h3, g', s, rfl, rfl, hs⟩
  · exact h2.elim
  · simp only [rblk, Option.some.injEq] at h2
    subst h2
    have hs2 : s = ⟨b.toArray⟩ := by
      cases s with | mk data => simp only at hs; rw [← hs]
    have hsz : s.size = b.length := by rw [hs2]; rfl
    by_cases hq : q < b.length
    · rw [if_pos hq] at hm
      have hrun : (execOp a.eval ⟨some d, .next x true, ty, pos, after, none⟩).run P w = .ok (.value (.tuple #[.bool true, .int .i64 (q : Int), .int .i32 ((runeAt b q).1 : Int)])) { w with heap := w.heap.setIfInBounds g' (.stringIter s (q + (runeAt b q).2)) } := by
        simp [execOp, h1, Instr.next, getObj, setObj, Sem.run, h3, hsz, hq, goInt, ← hs2, runeAt]
      have hlt : g' < w.heap.size := (Array.getElem?_eq_some_iff.1 h3).1
      have hgr : w.grownBy { w with heap := w.heap.setIfInBounds g' (.stringIter s (q + (runeAt b q).2)) } (some g') := by
        refine ⟨rfl, rfl, rfl, by simp, fun k hk hne => ?_⟩
        have hne : k ≠ g' := fun e => hne (by rw [e])
        simp only [Array.getElem?_setIfInBounds]
        rw [if_neg (fun e => hne e.symm)]
      obtain ⟨h4, h5⟩ := ha.upd r (v := .pointer (some ⟨g', 0, none⟩)) (c := .iter b (q + (runeAt b q).2)) hgr (fun b hb => ⟨_, _, hr, by cases hb; rfl⟩) (fun b hb => .inl ⟨_, _, hr, hb⟩)
        (fun S' k' => .inr ⟨g', .stringIter s (q + (runeAt b q).2), rfl, by simp [hlt], g', s, rfl, rfl, hs⟩)
      refine st (g_none rfl) hrun (ht hq _ _ (h4.put hn ⟨[_, _, _], ⟨⟨_, rfl, rfl⟩, rd_num', rd_num', trivial⟩, rfl⟩) ρ hm)
    · rw [if_neg hq] at hm
      have hrun : (execOp a.eval ⟨some d, .next x true, ty, pos, after, none⟩).run P w = .ok (.value (.tuple #[.bool false])) w := by
        simp [execOp, h1, Instr.next, getObj, Sem.run, h3, hsz, hq]
      refine st (g_none rfl) hrun (hf hq _ _ (ha.put hn ⟨[_], ⟨⟨_, rfl, rfl⟩, trivial⟩, rfl⟩) ρ hm)
end
end Go.Proofs.Ytklfgpdfongaeaa
