/- Ids: a variable of 32 bytes read as a slice; the comparison of bytes that Go's library names but does not write; calls of such functions. Over any program P. -/
import Derived.Test.YtklfgpdfongaeaaLibH2
import Derived.Test.YtklfgpdfongaeaaLibF
import Derived.Lib.Bytealg
import Derived.Laws.Externs
namespace Go.Proofs.Ytklfgpdfongaeaa
open Go Go.RowKit
set_option linter.unusedSimpArgs false
set_option linter.unusedVariables false

section
variable {P : Program} {w : World}
theorem run_loadBytes : ∀ (l : List UInt8) (b o : Nat) (acc : ByteArray), (∀ j u, (l.map encB)[j]? = some u → w.cell? ⟨b, o + j, none⟩ = some u) →
    ∃ s, (Extern.Bytes.loadBytes ⟨b, o, none⟩ l.length acc).run P w = .ok s w ∧ s.data.toList = acc.data.toList ++ l
  | [], b, o, acc, h => ⟨acc, rfl, by simp⟩
  | x :: l, b, o, acc, h => by
    have h0 : w.cell? ⟨b, o, none⟩ = some (encB x) := h 0 _ rfl
    obtain ⟨s, h1, h2⟩ := run_loadBytes l b (o + 1) (acc.push x) (fun j u hu => by rw [Nat.add_assoc, Nat.add_comm 1 j]; exact h (j + 1) u hu)
    refine ⟨s, ?_, by rw [h2]; simp⟩
    have hx : ((x.toNat : Nat) : Int).toNat.toUInt8 = x := by simp
    rw [show (x :: l).length = l.length + 1 from rfl]
    unfold Extern.Bytes.loadBytes
    simp [h0, encB, add_none]
    simpa using h1
theorem bytesE_cells : ∀ l : List UInt8, bytesE.cells l = l.map encB
  | [] => rfl
  | x :: l => by have := bytesE_cells l; simp only [Enc.cells, List.flatMap_cons, List.map_cons] at this ⊢; rw [this]; rfl
theorem run_bytesOf {p : Option Addr} {c : Nat} {l : List UInt8} (h : RdL bytesE w p c l) : ∃ s, (Extern.Bytes.bytesOf (.slice p l.length c)).run P w = .ok s w ∧ s.data.toList = l := by
  rcases h.2 with ⟨hv, h0⟩ | ⟨b, o, sp, cap, hv, h1, h2, hsp, h3⟩
  · simp only [Value.slice.injEq] at hv
    obtain ⟨rfl, hl, -⟩ := hv
    have : l = [] := List.length_eq_zero_iff.1 hl
    subst this
    exact ⟨.empty, rfl, rfl⟩
  · simp only [Value.slice.injEq, true_and] at hv
    obtain ⟨rfl, -⟩ := hv
    rw [bytesE_cells] at h3
    rcases hsp with hx | rfl
    · have : l = [] := by cases l with
        | nil => rfl
        | cons x t => simp [Enc.cells, bytesE] at hx
      subst this; exact ⟨.empty, rfl, rfl⟩
    · obtain ⟨s, h4, h5⟩ := run_loadBytes l b o .empty h3
      exact ⟨s, h4, by rw [h5]; rfl⟩
theorem run_compare {p q : Option Addr} {c d : Nat} {x y : List UInt8} (hx : RdL bytesE w p c x) (hy : RdL bytesE w q d y) :
    (Extern.BytealgCompare.compare #[.slice p x.length c, .slice q y.length d]).run P w = .ok (.int .i64 (Lib.compareBytes x y)) w := by
  obtain ⟨s, h1, h2⟩ := run_bytesOf (P := P) hx
  obtain ⟨t, h3, h4⟩ := run_bytesOf (P := P) hy
  change Sem.run P (do pure (goInt (Extern.BytealgCompare.cmp (← Extern.Bytes.bytesOf (.slice p x.length c)) (← Extern.Bytes.bytesOf (.slice q y.length d))))) w = _
  simp only [Sem.run_bind, h1, h3, Sem.run_pure, Result.andThen]
  rw [Lib.cmp_eq, h2, h4]
  rfl
end

section
variable {P : Program} {ops : Array Oper} {Q : Exit → Act → World → Prop} {a : Act} {w : World} {rest : List Oper} {n : Nat} {fl : List (Nat × Value)}
  {d : Tmp} {ty : TypeId} {pos : String} {after : Array Edge} {g : Option (Nat × Bool)}
/-- A call of a function that the model gives by a row: it hands back at once. -/
theorem run_ext {fn : FuncId} {args : Array Operand} {vs : Array Value} {ats : Array TypeId} {F : Func} {e : Array Value → Sem Value} {v : Value} {w' : World}
    (hF : P.funcs[fn]? = some F) (hnm : (F.name == "runtime.NumGoroutine") = false) (hB : F.body.isNone = true) (hn : Extern.findNext F = none) (he : Extern.find F = some e)
    (hvs : args.map a.eval = vs) (hr : (e vs).run P w = .ok v w') : (execOp a.eval ⟨some d, .call ⟨.value (.func fn), args, ats⟩, ty, pos, after, g⟩).run P w = .ok (.value v) w' := by
  have e0 : a.eval (.func fn) = .func (.func fn) #[] #[] := rfl
  simp [execOp, resolve, e0, Deferred.ofValue, invoke, hvs, run_callFunc_extern hF hnm hB hn he, hr]
theorem s_ext {fn : FuncId} {args : Array Operand} {vs : Array Value} {ats : Array TypeId} {F : Func} {e : Array Value → Sem Value} {v : Value} (f : Frm n fl a)
    (hw : Region.wanted ⟨some d, .call ⟨.value (.func fn), args, ats⟩, ty, pos, after, g⟩ (yielded ops a.tmps) = true) (hd : Nat.blt d n = true)
    (hF : P.funcs[fn]? = some F) (hnm : (F.name == "runtime.NumGoroutine") = false) (hB : F.body.isNone = true) (hn : Extern.findNext F = none) (he : Extern.find F = some e)
    (hvs : args.map a.eval = vs) (hr : (e vs).run P w = .ok v w) (c : ∀ a', Frm n ((d, v) :: fl) a' → wpList P ops Q rest a' w) :
    wpList P ops Q (⟨some d, .call ⟨.value (.func fn), args, ats⟩, ty, pos, after, g⟩ :: rest) a w :=
  stv f hw hd (run_ext hF hnm hB hn he hvs hr) c
/-- The whole of a variable of 32 bytes as a slice. -/
theorem Bx.id {w : World} {b T : Nat} {x : ID32} (h : Bx w b (idsE.of x).toArray T) : RdL bytesE w (some ⟨b, 0, none⟩) 32 x.bytes := by
  have e : bytesE.cells x.bytes = (idsE.of x) := bytesE_cells _
  refine ⟨by rw [Enc.cells_len], .inr ⟨b, 0, none, 32, rfl, by rw [x.len]; exact Nat.le_refl _, by decide, .inr rfl, fun j u hu => ?_⟩⟩
  rw [e] at hu
  rw [Nat.zero_add]
  exact h.cell' (by simpa using hu)
theorem run_cutA {T e : TypeId} {x : Operand} {b : Nat} {y : ID32} (f : Frm n fl a) (hT : P.underlying T = some (.array 32 e)) {z : Value} {sz by_ : Nat} (hE : TI P e z sz by_)
    (hx : opv fl x = some (.pointer (some ⟨b, 0, none⟩))) : (execOp a.eval ⟨some d, .slice T x none none none, ty, pos, after, g⟩).run P w = .ok (.value (.slice (some ⟨b, 0, none⟩) y.bytes.length 32)) w := by
  rw [y.len]
  have h0 : (⟨b, 0, none⟩ : Addr).add 0 = ⟨b, 0, none⟩ := add_none b 0 0
  simp [execOp, Instr.sliceAt, f.ev hx, run_underlying hT, Instr.sureAddr, Instr.sliceBounds, run_sizeOf hE, h0]
theorem t_cutA {T e : TypeId} {x : Operand} {b : Nat} (y : ID32) (f : Frm n fl a)
    (hw : Region.wanted ⟨some d, .slice T x none none none, ty, pos, after, g⟩ (yielded ops a.tmps) = true) (hd : Nat.blt d n = true)
    (hT : P.underlying T = some (.array 32 e)) {z : Value} {sz by_ : Nat} (hE : TI P e z sz by_) (hx : opv fl x = some (.pointer (some ⟨b, 0, none⟩)))
    (c : ∀ a', Frm n ((d, .slice (some ⟨b, 0, none⟩) y.bytes.length 32) :: fl) a' → wpList P ops Q rest a' w) :
    wpList P ops Q (⟨some d, .slice T x none none none, ty, pos, after, g⟩ :: rest) a w := stv f hw hd (run_cutA f hT hE hx) c
theorem u_cutA {qq : Act → Prop} {T e : TypeId} {x : Operand} {b : Nat} (y : ID32) (f : Frm n fl a)
    (hw : Region.wanted ⟨some d, .slice T x none none none, ty, pos, after, g⟩ (yielded ops a.tmps) = true) (hd : Nat.blt d n = true)
    (hT : P.underlying T = some (.array 32 e)) {z : Value} {sz by_ : Nat} (hE : TI P e z sz by_) (hx : opv fl x = some (.pointer (some ⟨b, 0, none⟩)))
    (c : ∀ a', Frm n ((d, .slice (some ⟨b, 0, none⟩) y.bytes.length 32) :: fl) a' → wpQuiet P ops (Ext w) qq rest a') :
    wpQuiet P ops (Ext w) qq (⟨some d, .slice T x none none none, ty, pos, after, g⟩ :: rest) a := qtv f hw hd (fun w' _ => run_cutA f hT hE hx) c
theorem h_cutA {S : World → Prop} {fuel : Nat} {listed listed' : Array Bool} {T e : TypeId} {x : Operand} {b : Nat} (y : ID32) (f : Frm n fl a) (ix : Nat)
    (hi' : ops[ix]? = some ⟨some d, .slice T x none none none, ty, pos, after, g⟩) (hs : Region.noSelect ops = true) (hf : Region.free .any ops listed ix = true) (hr' : (Region.ready .any ops listed).contains ix = true)
    (hQ : ∀ v c a w, Q (.panic c) (a.put (some d) v) w → Q (.panic c) a w) (hw : Region.wanted ⟨some d, .slice T x none none none, ty, pos, after, g⟩ (yielded ops a.tmps) = true) (hd : Nat.blt d n = true)
    (hT : P.underlying T = some (.array 32 e)) {z : Value} {sz by_ : Nat} (hE : TI P e z sz by_) (hx : opv fl x = some (.pointer (some ⟨b, 0, none⟩))) (hS : S w) (hls : listed.setIfInBounds ix true = listed')
    (k : ∀ a', Frm n ((d, .slice (some ⟨b, 0, none⟩) y.bytes.length 32) :: fl) a' → wpAnyH P .any ops Q S fuel listed' a' w) :
    wpAnyH P .any ops Q S (fuel + 1) listed a w :=
  h_take f ix hi' hs hf hr' (fun c a w => hQ _ c a w) hw hd (fun w' _ => run_cutA f hT hE hx) hS hls k
end
theorem idcellD (x : ID32) (i : Nat) (h : i < 32) : (idsE.of x).toArray[i]? = some (.int .u8 ((x.bytes.getD i 0).toNat : Int)) := by
  have hl := x.len
  rw [idcell x i (by omega)]; simp [List.getD, show i < x.bytes.length by omega]
theorem cmp_step {x y : List UInt8} {i : Nat} (hx : i < x.length) (hy : i < y.length) (h : x.getD i 0 = y.getD i 0) : Lib.compareBytes (x.drop i) (y.drop i) = Lib.compareBytes (x.drop (i + 1)) (y.drop (i + 1)) := by
  rw [List.drop_eq_getElem_cons hx, List.drop_eq_getElem_cons hy]
  simp only [List.getD, List.getElem?_eq_getElem hx, List.getElem?_eq_getElem hy, Option.getD_some] at h
  rw [h, Lib.compareBytes]
  simp
theorem cmp_less {x y : List UInt8} {i : Nat} (hx : i < x.length) (hy : i < y.length) (h : (x.getD i 0).toNat < (y.getD i 0).toNat) : Lib.compareBytes (x.drop i) (y.drop i) = -1 := by
  rw [List.drop_eq_getElem_cons hx, List.drop_eq_getElem_cons hy]
  simp only [List.getD, List.getElem?_eq_getElem hx, List.getElem?_eq_getElem hy, Option.getD_some] at h
  rw [Lib.compareBytes, if_pos (UInt8.lt_iff_toNat_lt.2 h)]
theorem cmp_more {x y : List UInt8} {i : Nat} (hx : i < x.length) (hy : i < y.length) (h : (y.getD i 0).toNat < (x.getD i 0).toNat) : Lib.compareBytes (x.drop i) (y.drop i) = 1 := by
  rw [List.drop_eq_getElem_cons hx, List.drop_eq_getElem_cons hy]
  simp only [List.getD, List.getElem?_eq_getElem hx, List.getElem?_eq_getElem hy, Option.getD_some] at h
  rw [Lib.compareBytes, if_neg (fun h2 => by have := UInt8.lt_iff_toNat_lt.1 h2; omega), if_pos (UInt8.lt_iff_toNat_lt.2 h)]
theorem cmp_end {x y : List UInt8} {i : Nat} (hx : x.length ≤ i) (hy : y.length ≤ i) : Lib.compareBytes (x.drop i) (y.drop i) = 0 := by
  rw [List.drop_eq_nil_of_le hx, List.drop_eq_nil_of_le hy]; rfl
/-- The world went on, and of the older blocks only 'cb' may have changed. -/
def Gb (cb : Nat) (w w' : World) : Prop := w.grownBy w' (some cb)
theorem Gb.refl (cb : Nat) (w : World) : Gb cb w w := ⟨rfl, rfl, rfl, Nat.le_refl _, fun _ _ _ => rfl⟩
theorem Gb.start {w w' : World} (cb : Nat) (h : Ext w w') : Gb cb w w' := ⟨h.os, h.tape, h.output, h.size, fun k hk _ => h.block k hk⟩
theorem Gb.gr {cb : Nat} {w w' w'' : World} {r : Option Nat} (h : Gb cb w w') (k : w'.grownBy w'' r) (hr : ∀ b, r = some b → b = cb) : Gb cb w w'' :=
  ⟨k.os.trans h.os, k.tape.trans h.tape, k.output.trans h.output, Nat.le_trans h.size k.size, fun i hi hn => (k.block i (Nat.lt_of_lt_of_le hi h.size) (by cases r with
    | none => simp
    | some b => have := hr b rfl; subst this; exact hn)).trans (h.block i hi hn)⟩
theorem Gb.tr {cb : Nat} {w w' w'' : World} (h : Gb cb w w') (k : Ext w' w'') : Gb cb w w'' := h.gr (r := none) ⟨k.os, k.tape, k.output, k.size, fun i hi _ => k.block i hi⟩ (by simp)
theorem Gb.tr' {cb : Nat} {w w' w'' : World} (h : Gb cb w w') (k : Gb cb w' w'') : Gb cb w w'' := h.gr (r := some cb) k (by intro b e; injection e with e; exact e.symm)
theorem Gb.size {cb : Nat} {w w' : World} (h : Gb cb w w') : w.heap.size ≤ w'.heap.size := World.grownBy.size h
end Go.Proofs.Ytklfgpdfongaeaa
