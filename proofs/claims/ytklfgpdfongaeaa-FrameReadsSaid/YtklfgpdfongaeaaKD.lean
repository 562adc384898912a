/- The comparison of bytes that Go's library names but does not write; a string as bytes. Over any program. -/
import Derived.Test.YtklfgpdfongaeaaKC
import Derived.Lib.Bytealg
import Derived.Laws.Externs
import Derived.Laws.IdiomStrings
namespace Go.Proofs.Ytklfgpdfongaeaa
open Go Go.RowKit
set_option linter.unusedSimpArgs false
set_option linter.unusedVariables false
section
variable {P : Program} {w : World}
theorem run_loadBytesK : ∀ (l : List UInt8) (b o : Nat) (acc : ByteArray), (∀ j u, (l.map fun c => Value.int .u8 (c.toNat : Int))[j]? = some u → w.cell? ⟨b, o + j, none⟩ = some u) →
    ∃ s, (Extern.Bytes.loadBytes ⟨b, o, none⟩ l.length acc).run P w = .ok s w ∧ s.data.toList = acc.data.toList ++ l
  | [], b, o, acc, h => ⟨acc, rfl, by simp⟩
  | x :: l, b, o, acc, h => by
    have h0 : w.cell? ⟨b, o, none⟩ = some (.int .u8 (x.toNat : Int)) := h 0 _ rfl
    obtain ⟨s, h1, h2⟩ := run_loadBytesK l b (o + 1) (acc.push x) (fun j u hu => by rw [Nat.add_assoc, Nat.add_comm 1 j]; exact h (j + 1) u hu)
    refine ⟨s, ?_, by rw [h2]; simp⟩
    have hx : ((x.toNat : Nat) : Int).toNat.toUInt8 = x := by simp
    rw [show (x :: l).length = l.length + 1 from rfl]
    unfold Extern.Bytes.loadBytes
    simp [h0, add_none]
    simpa using h1
theorem run_bytesOfK {p : Option Addr} {c : Nat} {l : List UInt8} {xs : List Value} (h : Rd w (.slice p l.length c) l.length 1 xs) (hx : xs = l.map fun c => Value.int .u8 (c.toNat : Int)) : ∃ s, (Extern.Bytes.bytesOf (.slice p l.length c)).run P w = .ok s w ∧ s.data.toList = l := by
  rcases h.2 with ⟨hv, h0⟩ | ⟨b, o, sp, cap, hv, h1, h2, hsp, h3⟩
  · simp only [Value.slice.injEq] at hv
    obtain ⟨rfl, hl, -⟩ := hv
    have : l = [] := List.length_eq_zero_iff.1 hl
    subst this
    exact ⟨.empty, rfl, rfl⟩
  · simp only [Value.slice.injEq, true_and] at hv
    obtain ⟨rfl, -⟩ := hv
    rcases hsp with he | rfl
    · have : l = [] := by rw [hx] at he; simpa using he
      subst this; exact ⟨.empty, rfl, rfl⟩
    · obtain ⟨s, h4, h5⟩ := run_loadBytesK l b o .empty (by rw [← hx]; exact h3)
      exact ⟨s, h4, by rw [h5]; rfl⟩
theorem run_compareK {p q : Option Addr} {c d : Nat} {x y : List UInt8} {xs ys : List Value} (hx : Rd w (.slice p x.length c) x.length 1 xs) (hx' : xs = x.map fun c => Value.int .u8 (c.toNat : Int)) (hy : Rd w (.slice q y.length d) y.length 1 ys) (hy' : ys = y.map fun c => Value.int .u8 (c.toNat : Int)) :
    (Extern.BytealgCompare.compare #[.slice p x.length c, .slice q y.length d]).run P w = .ok (.int .i64 (Lib.compareBytes x y)) w := by
  obtain ⟨s, h1, h2⟩ := run_bytesOfK (P := P) hx hx'
  obtain ⟨t, h3, h4⟩ := run_bytesOfK (P := P) hy hy'
  change Sem.run P (do pure (goInt (Extern.BytealgCompare.cmp (← Extern.Bytes.bytesOf (.slice p x.length c)) (← Extern.Bytes.bytesOf (.slice q y.length d))))) w = _
  simp only [Sem.run_bind, h1, h3, Sem.run_pure, Result.andThen]
  rw [Lib.cmp_eq, h2, h4]
  rfl
end
section
variable {ρ : Type} {C : World → World → Prop} {P : Program} {Γ : Ctx} {l : Slots} {res : Res} {m : Option ρ} {os rest : List Oper} {N : ρ → Exit → Act → World → Prop} {d : Tmp} {ty : TypeId} {pos : String} {after : Array Edge} {g : Option (Nat × Bool)}
theorem run_extK {a : Act} {w w' : World} {fn : FuncId} {args : Array Operand} {vs : Array Value} {ats : Array TypeId} {F : Func} {e : Array Value → Sem Value} {v : Value}
    (hF : P.funcs[fn]? = some F) (hnm : (F.name == "runtime.NumGoroutine") = false) (hB : F.body.isNone = true) (hn : Extern.findNext F = none) (he : Extern.find F = some e)
    (hvs : args.map a.eval = vs) (hr : (e vs).run P w = .ok v w') : (execOp a.eval ⟨some d, .call ⟨.value (.func fn), args, ats⟩, ty, pos, after, g⟩).run P w = .ok (.value v) w' := by
  have e0 : a.eval (.func fn) = .func (.func fn) #[] #[] := rfl
  simp [execOp, resolve, e0, Deferred.ofValue, invoke, hvs, run_callFunc_extern hF hnm hB hn he, hr]
/-- two lists of bytes compared -/
theorem cmpB {ws : List Nat} [LC C res ws] {fn : FuncId} {x y : Operand} {ats : Array TypeId} {F : Func} {b c : List UInt8} (hx : opE l x = some (.rd (sliceR u8R) b)) (hy : opE l y = some (.rd (sliceR u8R) c)) (hF : P.funcs[fn]? = some F) (hnm : (F.name == "runtime.NumGoroutine") = false) (hB : F.body.isNone = true) (hn : Extern.findNext F = none) (he : Extern.find F = some Extern.BytealgCompare.compare) :
    Run C P Γ l res ⟨some d, .call ⟨.value (.func fn), #[x, y], ats⟩, ty, pos, after, g⟩ (.rd i64R (Lib.compareBytes b c)) := fun a w ha => by
  obtain ⟨cs, ⟨p, cp, xs, k1, k2, k3, k4⟩, k5⟩ := ha.vl hx
  subst k1
  have k5 : a.eval x = .slice p b.length cp := k5
  obtain ⟨ds, ⟨q, cq, ys, j1, j2, j3, j4⟩, j5⟩ := ha.vl hy
  subst j1
  have j5 : a.eval y = .slice q c.length cq := j5
  refine ⟨_, fun w' hw' => ?_, rd_num'⟩
  have stay : Stay (Shr Γ.H res w) (Shr Γ.H res w') w w' := CW.stay hw'
  exact run_extK hF hnm hB hn he (by simp [k5, j5]) (run_compareK (k2.stay k4 stay) (relL_u8 k3) (j2.stay j4 stay) (relL_u8 j3))
/-- two strings compared -/
theorem cmpT {fn : FuncId} {x y : Operand} {ats : Array TypeId} {F : Func} {b c : List UInt8} (hx : opE l x = some (.rd strR b)) (hy : opE l y = some (.rd strR c)) (hF : P.funcs[fn]? = some F) (hnm : (F.name == "runtime.NumGoroutine") = false) (hB : F.body.isNone = true) (hn : Extern.findNext F = none) (he : Extern.find F = some Extern.BytealgCompare.compare) :
    Run C P Γ l res ⟨some d, .call ⟨.value (.func fn), #[x, y], ats⟩, ty, pos, after, g⟩ (.rd i64R (Lib.compareBytes b c)) := fun a w ha => by
  obtain ⟨s, k1, rfl⟩ := rd_str (ha.vl hx)
  obtain ⟨t, j1, rfl⟩ := rd_str (ha.vl hy)
  exact ⟨_, fun w' hw' => run_extK hF hnm hB hn he (by simp [k1, j1]) (Lib.run_compareString s t w'), rd_num'⟩
/-- a string as bytes: in memory of their own that nobody may write -/
theorem lCvSB {x : Operand} {S D e : TypeId} {b : List UInt8} {u : Unit} (hn : Nat.blt d Γ.n = true) (hx : opE l x = some (.rd strR b)) (hb : chk (b.length ≤ 281474976710656) = some u) (hS : P.underlying S = some .string) (hD : P.underlying D = some (.slice e)) (he : P.underlying e = some (.int .u8))
    (k : GL P os (Sta Γ ((d, .rd (sliceR u8R) b) :: l) res) rest N m) : GL P os (Sta Γ l res) (⟨some d, .convert S D x, ty, pos, after, none⟩ :: rest) N m := fun a w ha ρ hm => by
  have hb := chk_some hb
  obtain ⟨s, k1, rfl⟩ := rd_str (ha.vl hx)
  have hsz : s.data.toList.length = s.size := by simp
  rw [hsz] at hb
  generalize hw : (w.drew.alloc (.cells (bytesRow s (grownCap w s.size 0 e)) e ((bytesRow s (grownCap w s.size 0 e)).size, (bytesRow s (grownCap w s.size 0 e)).size + 1))) = w'
  have hrun : (execOp a.eval ⟨some d, .convert S D x, ty, pos, after, none⟩).run P w = .ok (.value (.slice (some ⟨w.heap.size, 0, none⟩) s.size (grownCap w s.size 0 e))) w' := by
    have := run_bytes_of_string w S D e s hS hD he
    rw [hw] at this
    simp [execOp, k1, this]
  have hE : Ext w w' := by rw [← hw]; exact Ext.tr (Ext.dr Ext.rfl') (Ext.al _ _)
  have hcell : w'.heap[w.heap.size]? = some (.cells (bytesRow s (grownCap w s.size 0 e)) e ((bytesRow s (grownCap w s.size 0 e)).size, (bytesRow s (grownCap w s.size 0 e)).size + 1)) := by
    rw [← hw]
    show (w.heap.push _)[w.heap.size]? = _
    simp
  have ha' := ha.ext hE
  have hnew : Shr Γ.H res w' w.heap.size := by
    refine ⟨(Array.getElem?_eq_some_iff.1 hcell).1, fun r v c hr e => ?_, fun hH => ?_⟩
    · exact absurd ((ha.conts r v c hr).lt e) (by omega)
    · have h1 := ha.old _ (ha.hid _ hH)
      have h2 := ha.keep.size
      omega
  refine st (g_none rfl) hrun (k _ _ (ha'.put hn ⟨_, ⟨some ⟨w.heap.size, 0, none⟩, grownCap w s.size 0 e, s.data.toList.map fun c => .int .u8 (c.toNat : Int), rfl, ⟨by simp [u8R, numR], .inr ⟨w.heap.size, 0, none, grownCap w s.size 0 e, rfl, ?_, ?_, .inr rfl, fun j u hu => ?_⟩⟩, ?_, fun _ bb hbb => by cases hbb; exact hnew⟩, by rw [← hsz]; rfl⟩) ρ hm)
  · rw [hsz]; exact grownCap_ge w s.size 0 e
  · exact grownCap_le_maxLen w s.size 0 e (by unfold maxLen; omega)
  · have hj : j < s.data.size := by
      have := (List.getElem?_eq_some_iff.1 hu).1
      simpa using this
    have h1 : u = .int .u8 (s.data[j].toNat : Int) := by
      rw [List.getElem?_map, List.getElem?_eq_getElem (by simpa using hj)] at hu
      simp only [Option.map_some, Option.some.injEq] at hu
      rw [← hu]; simp
    unfold World.cell?
    simp only [hcell]
    rw [h1, Nat.zero_add]
    exact bytesRow_at s _ j hj
  · have : ∀ b : List UInt8, relL u8R (Shr Γ.H res w') w' (b.map fun c => .int .u8 (c.toNat : Int)) b := by
      intro b
      induction b with
      | nil => rfl
      | cons c b ih => exact ⟨[_], _, rfl, rfl, ih⟩
    exact this _
end
end Go.Proofs.Ytklfgpdfongaeaa
