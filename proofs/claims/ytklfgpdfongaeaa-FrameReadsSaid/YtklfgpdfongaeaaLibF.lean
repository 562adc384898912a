/- Small closers for the walks that the program prints. Over any program P. -/
import Derived.Test.YtklfgpdfongaeaaLibE
namespace Go.Proofs.Ytklfgpdfongaeaa
open Go Go.RowKit
set_option linter.unusedSimpArgs false
set_option linter.unusedVariables false

section
variable {n : Nat} {l : List (Nat × Value)} {a : Act}
theorem ev1 {x0 : Operand} {v0 : Value} (f : Frm n l a) (h0 : opv l x0 = some v0) : (#[x0] : Array Operand).map a.eval = #[v0] := by
  simp [f.ev h0]
theorem ev1v {x0 : Operand} {v0 : Value} {q r : Array Value} (f : Frm n l a) (h0 : opv l x0 = some v0) : q ++ (#[x0] : Array Operand).map a.eval ++ r = q ++ #[v0] ++ r := by
  simp [f.ev h0]
theorem ev2 {x0 x1 : Operand} {v0 v1 : Value} (f : Frm n l a) (h0 : opv l x0 = some v0) (h1 : opv l x1 = some v1) : (#[x0, x1] : Array Operand).map a.eval = #[v0, v1] := by
  simp [f.ev h0, f.ev h1]
theorem ev2v {x0 x1 : Operand} {v0 v1 : Value} {q r : Array Value} (f : Frm n l a) (h0 : opv l x0 = some v0) (h1 : opv l x1 = some v1) : q ++ (#[x0, x1] : Array Operand).map a.eval ++ r = q ++ #[v0, v1] ++ r := by
  simp [f.ev h0, f.ev h1]
theorem ev3 {x0 x1 x2 : Operand} {v0 v1 v2 : Value} (f : Frm n l a) (h0 : opv l x0 = some v0) (h1 : opv l x1 = some v1) (h2 : opv l x2 = some v2) : (#[x0, x1, x2] : Array Operand).map a.eval = #[v0, v1, v2] := by
  simp [f.ev h0, f.ev h1, f.ev h2]
theorem ev3v {x0 x1 x2 : Operand} {v0 v1 v2 : Value} {q r : Array Value} (f : Frm n l a) (h0 : opv l x0 = some v0) (h1 : opv l x1 = some v1) (h2 : opv l x2 = some v2) : q ++ (#[x0, x1, x2] : Array Operand).map a.eval ++ r = q ++ #[v0, v1, v2] ++ r := by
  simp [f.ev h0, f.ev h1, f.ev h2]
theorem ev4 {x0 x1 x2 x3 : Operand} {v0 v1 v2 v3 : Value} (f : Frm n l a) (h0 : opv l x0 = some v0) (h1 : opv l x1 = some v1) (h2 : opv l x2 = some v2) (h3 : opv l x3 = some v3) : (#[x0, x1, x2, x3] : Array Operand).map a.eval = #[v0, v1, v2, v3] := by
  simp [f.ev h0, f.ev h1, f.ev h2, f.ev h3]
theorem ev4v {x0 x1 x2 x3 : Operand} {v0 v1 v2 v3 : Value} {q r : Array Value} (f : Frm n l a) (h0 : opv l x0 = some v0) (h1 : opv l x1 = some v1) (h2 : opv l x2 = some v2) (h3 : opv l x3 = some v3) : q ++ (#[x0, x1, x2, x3] : Array Operand).map a.eval ++ r = q ++ #[v0, v1, v2, v3] ++ r := by
  simp [f.ev h0, f.ev h1, f.ev h2, f.ev h3]
theorem ev5 {x0 x1 x2 x3 x4 : Operand} {v0 v1 v2 v3 v4 : Value} (f : Frm n l a) (h0 : opv l x0 = some v0) (h1 : opv l x1 = some v1) (h2 : opv l x2 = some v2) (h3 : opv l x3 = some v3) (h4 : opv l x4 = some v4) : (#[x0, x1, x2, x3, x4] : Array Operand).map a.eval = #[v0, v1, v2, v3, v4] := by
  simp [f.ev h0, f.ev h1, f.ev h2, f.ev h3, f.ev h4]
theorem ev5v {x0 x1 x2 x3 x4 : Operand} {v0 v1 v2 v3 v4 : Value} {q r : Array Value} (f : Frm n l a) (h0 : opv l x0 = some v0) (h1 : opv l x1 = some v1) (h2 : opv l x2 = some v2) (h3 : opv l x3 = some v3) (h4 : opv l x4 = some v4) : q ++ (#[x0, x1, x2, x3, x4] : Array Operand).map a.eval ++ r = q ++ #[v0, v1, v2, v3, v4] ++ r := by
  simp [f.ev h0, f.ev h1, f.ev h2, f.ev h3, f.ev h4]
theorem ev6 {x0 x1 x2 x3 x4 x5 : Operand} {v0 v1 v2 v3 v4 v5 : Value} (f : Frm n l a) (h0 : opv l x0 = some v0) (h1 : opv l x1 = some v1) (h2 : opv l x2 = some v2) (h3 : opv l x3 = some v3) (h4 : opv l x4 = some v4) (h5 : opv l x5 = some v5) : (#[x0, x1, x2, x3, x4, x5] : Array Operand).map a.eval = #[v0, v1, v2, v3, v4, v5] := by
  simp [f.ev h0, f.ev h1, f.ev h2, f.ev h3, f.ev h4, f.ev h5]
theorem ev6v {x0 x1 x2 x3 x4 x5 : Operand} {v0 v1 v2 v3 v4 v5 : Value} {q r : Array Value} (f : Frm n l a) (h0 : opv l x0 = some v0) (h1 : opv l x1 = some v1) (h2 : opv l x2 = some v2) (h3 : opv l x3 = some v3) (h4 : opv l x4 = some v4) (h5 : opv l x5 = some v5) : q ++ (#[x0, x1, x2, x3, x4, x5] : Array Operand).map a.eval ++ r = q ++ #[v0, v1, v2, v3, v4, v5] ++ r := by
  simp [f.ev h0, f.ev h1, f.ev h2, f.ev h3, f.ev h4, f.ev h5]
theorem ev7 {x0 x1 x2 x3 x4 x5 x6 : Operand} {v0 v1 v2 v3 v4 v5 v6 : Value} (f : Frm n l a) (h0 : opv l x0 = some v0) (h1 : opv l x1 = some v1) (h2 : opv l x2 = some v2) (h3 : opv l x3 = some v3) (h4 : opv l x4 = some v4) (h5 : opv l x5 = some v5) (h6 : opv l x6 = some v6) : (#[x0, x1, x2, x3, x4, x5, x6] : Array Operand).map a.eval = #[v0, v1, v2, v3, v4, v5, v6] := by
  simp [f.ev h0, f.ev h1, f.ev h2, f.ev h3, f.ev h4, f.ev h5, f.ev h6]
theorem ev7v {x0 x1 x2 x3 x4 x5 x6 : Operand} {v0 v1 v2 v3 v4 v5 v6 : Value} {q r : Array Value} (f : Frm n l a) (h0 : opv l x0 = some v0) (h1 : opv l x1 = some v1) (h2 : opv l x2 = some v2) (h3 : opv l x3 = some v3) (h4 : opv l x4 = some v4) (h5 : opv l x5 = some v5) (h6 : opv l x6 = some v6) : q ++ (#[x0, x1, x2, x3, x4, x5, x6] : Array Operand).map a.eval ++ r = q ++ #[v0, v1, v2, v3, v4, v5, v6] ++ r := by
  simp [f.ev h0, f.ev h1, f.ev h2, f.ev h3, f.ev h4, f.ev h5, f.ev h6]
theorem ev8 {x0 x1 x2 x3 x4 x5 x6 x7 : Operand} {v0 v1 v2 v3 v4 v5 v6 v7 : Value} (f : Frm n l a) (h0 : opv l x0 = some v0) (h1 : opv l x1 = some v1) (h2 : opv l x2 = some v2) (h3 : opv l x3 = some v3) (h4 : opv l x4 = some v4) (h5 : opv l x5 = some v5) (h6 : opv l x6 = some v6) (h7 : opv l x7 = some v7) : (#[x0, x1, x2, x3, x4, x5, x6, x7] : Array Operand).map a.eval = #[v0, v1, v2, v3, v4, v5, v6, v7] := by
  simp [f.ev h0, f.ev h1, f.ev h2, f.ev h3, f.ev h4, f.ev h5, f.ev h6, f.ev h7]
theorem ev8v {x0 x1 x2 x3 x4 x5 x6 x7 : Operand} {v0 v1 v2 v3 v4 v5 v6 v7 : Value} {q r : Array Value} (f : Frm n l a) (h0 : opv l x0 = some v0) (h1 : opv l x1 = some v1) (h2 : opv l x2 = some v2) (h3 : opv l x3 = some v3) (h4 : opv l x4 = some v4) (h5 : opv l x5 = some v5) (h6 : opv l x6 = some v6) (h7 : opv l x7 = some v7) : q ++ (#[x0, x1, x2, x3, x4, x5, x6, x7] : Array Operand).map a.eval ++ r = q ++ #[v0, v1, v2, v3, v4, v5, v6, v7] ++ r := by
  simp [f.ev h0, f.ev h1, f.ev h2, f.ev h3, f.ev h4, f.ev h5, f.ev h6, f.ev h7]
theorem pt0 (f : Frm n l a)  : (#[] : Array (Nat × Operand)).map (fun (i, x) => (i, a.eval x)) = #[] := by
  simp []
theorem pt1 {i0 : Nat} {x0 : Operand} {v0 : Value} (f : Frm n l a) (h0 : opv l x0 = some v0) : (#[(i0, x0)] : Array (Nat × Operand)).map (fun (i, x) => (i, a.eval x)) = #[(i0, v0)] := by
  simp [f.ev h0]
theorem pt2 {i0 i1 : Nat} {x0 x1 : Operand} {v0 v1 : Value} (f : Frm n l a) (h0 : opv l x0 = some v0) (h1 : opv l x1 = some v1) : (#[(i0, x0), (i1, x1)] : Array (Nat × Operand)).map (fun (i, x) => (i, a.eval x)) = #[(i0, v0), (i1, v1)] := by
  simp [f.ev h0, f.ev h1]
theorem pt3 {i0 i1 i2 : Nat} {x0 x1 x2 : Operand} {v0 v1 v2 : Value} (f : Frm n l a) (h0 : opv l x0 = some v0) (h1 : opv l x1 = some v1) (h2 : opv l x2 = some v2) : (#[(i0, x0), (i1, x1), (i2, x2)] : Array (Nat × Operand)).map (fun (i, x) => (i, a.eval x)) = #[(i0, v0), (i1, v1), (i2, v2)] := by
  simp [f.ev h0, f.ev h1, f.ev h2]
theorem pt4 {i0 i1 i2 i3 : Nat} {x0 x1 x2 x3 : Operand} {v0 v1 v2 v3 : Value} (f : Frm n l a) (h0 : opv l x0 = some v0) (h1 : opv l x1 = some v1) (h2 : opv l x2 = some v2) (h3 : opv l x3 = some v3) : (#[(i0, x0), (i1, x1), (i2, x2), (i3, x3)] : Array (Nat × Operand)).map (fun (i, x) => (i, a.eval x)) = #[(i0, v0), (i1, v1), (i2, v2), (i3, v3)] := by
  simp [f.ev h0, f.ev h1, f.ev h2, f.ev h3]
theorem pt5 {i0 i1 i2 i3 i4 : Nat} {x0 x1 x2 x3 x4 : Operand} {v0 v1 v2 v3 v4 : Value} (f : Frm n l a) (h0 : opv l x0 = some v0) (h1 : opv l x1 = some v1) (h2 : opv l x2 = some v2) (h3 : opv l x3 = some v3) (h4 : opv l x4 = some v4) : (#[(i0, x0), (i1, x1), (i2, x2), (i3, x3), (i4, x4)] : Array (Nat × Operand)).map (fun (i, x) => (i, a.eval x)) = #[(i0, v0), (i1, v1), (i2, v2), (i3, v3), (i4, v4)] := by
  simp [f.ev h0, f.ev h1, f.ev h2, f.ev h3, f.ev h4]
theorem pt6 {i0 i1 i2 i3 i4 i5 : Nat} {x0 x1 x2 x3 x4 x5 : Operand} {v0 v1 v2 v3 v4 v5 : Value} (f : Frm n l a) (h0 : opv l x0 = some v0) (h1 : opv l x1 = some v1) (h2 : opv l x2 = some v2) (h3 : opv l x3 = some v3) (h4 : opv l x4 = some v4) (h5 : opv l x5 = some v5) : (#[(i0, x0), (i1, x1), (i2, x2), (i3, x3), (i4, x4), (i5, x5)] : Array (Nat × Operand)).map (fun (i, x) => (i, a.eval x)) = #[(i0, v0), (i1, v1), (i2, v2), (i3, v3), (i4, v4), (i5, v5)] := by
  simp [f.ev h0, f.ev h1, f.ev h2, f.ev h3, f.ev h4, f.ev h5]
theorem pt7 {i0 i1 i2 i3 i4 i5 i6 : Nat} {x0 x1 x2 x3 x4 x5 x6 : Operand} {v0 v1 v2 v3 v4 v5 v6 : Value} (f : Frm n l a) (h0 : opv l x0 = some v0) (h1 : opv l x1 = some v1) (h2 : opv l x2 = some v2) (h3 : opv l x3 = some v3) (h4 : opv l x4 = some v4) (h5 : opv l x5 = some v5) (h6 : opv l x6 = some v6) : (#[(i0, x0), (i1, x1), (i2, x2), (i3, x3), (i4, x4), (i5, x5), (i6, x6)] : Array (Nat × Operand)).map (fun (i, x) => (i, a.eval x)) = #[(i0, v0), (i1, v1), (i2, v2), (i3, v3), (i4, v4), (i5, v5), (i6, v6)] := by
  simp [f.ev h0, f.ev h1, f.ev h2, f.ev h3, f.ev h4, f.ev h5, f.ev h6]
theorem pt8 {i0 i1 i2 i3 i4 i5 i6 i7 : Nat} {x0 x1 x2 x3 x4 x5 x6 x7 : Operand} {v0 v1 v2 v3 v4 v5 v6 v7 : Value} (f : Frm n l a) (h0 : opv l x0 = some v0) (h1 : opv l x1 = some v1) (h2 : opv l x2 = some v2) (h3 : opv l x3 = some v3) (h4 : opv l x4 = some v4) (h5 : opv l x5 = some v5) (h6 : opv l x6 = some v6) (h7 : opv l x7 = some v7) : (#[(i0, x0), (i1, x1), (i2, x2), (i3, x3), (i4, x4), (i5, x5), (i6, x6), (i7, x7)] : Array (Nat × Operand)).map (fun (i, x) => (i, a.eval x)) = #[(i0, v0), (i1, v1), (i2, v2), (i3, v3), (i4, v4), (i5, v5), (i6, v6), (i7, v7)] := by
  simp [f.ev h0, f.ev h1, f.ev h2, f.ev h3, f.ev h4, f.ev h5, f.ev h6, f.ev h7]
theorem pt9 {i0 i1 i2 i3 i4 i5 i6 i7 i8 : Nat} {x0 x1 x2 x3 x4 x5 x6 x7 x8 : Operand} {v0 v1 v2 v3 v4 v5 v6 v7 v8 : Value} (f : Frm n l a) (h0 : opv l x0 = some v0) (h1 : opv l x1 = some v1) (h2 : opv l x2 = some v2) (h3 : opv l x3 = some v3) (h4 : opv l x4 = some v4) (h5 : opv l x5 = some v5) (h6 : opv l x6 = some v6) (h7 : opv l x7 = some v7) (h8 : opv l x8 = some v8) : (#[(i0, x0), (i1, x1), (i2, x2), (i3, x3), (i4, x4), (i5, x5), (i6, x6), (i7, x7), (i8, x8)] : Array (Nat × Operand)).map (fun (i, x) => (i, a.eval x)) = #[(i0, v0), (i1, v1), (i2, v2), (i3, v3), (i4, v4), (i5, v5), (i6, v6), (i7, v7), (i8, v8)] := by
  simp [f.ev h0, f.ev h1, f.ev h2, f.ev h3, f.ev h4, f.ev h5, f.ev h6, f.ev h7, f.ev h8]
theorem pt10 {i0 i1 i2 i3 i4 i5 i6 i7 i8 i9 : Nat} {x0 x1 x2 x3 x4 x5 x6 x7 x8 x9 : Operand} {v0 v1 v2 v3 v4 v5 v6 v7 v8 v9 : Value} (f : Frm n l a) (h0 : opv l x0 = some v0) (h1 : opv l x1 = some v1) (h2 : opv l x2 = some v2) (h3 : opv l x3 = some v3) (h4 : opv l x4 = some v4) (h5 : opv l x5 = some v5) (h6 : opv l x6 = some v6) (h7 : opv l x7 = some v7) (h8 : opv l x8 = some v8) (h9 : opv l x9 = some v9) : (#[(i0, x0), (i1, x1), (i2, x2), (i3, x3), (i4, x4), (i5, x5), (i6, x6), (i7, x7), (i8, x8), (i9, x9)] : Array (Nat × Operand)).map (fun (i, x) => (i, a.eval x)) = #[(i0, v0), (i1, v1), (i2, v2), (i3, v3), (i4, v4), (i5, v5), (i6, v6), (i7, v7), (i8, v8), (i9, v9)] := by
  simp [f.ev h0, f.ev h1, f.ev h2, f.ev h3, f.ev h4, f.ev h5, f.ev h6, f.ev h7, f.ev h8, f.ev h9]
theorem pt11 {i0 i1 i2 i3 i4 i5 i6 i7 i8 i9 i10 : Nat} {x0 x1 x2 x3 x4 x5 x6 x7 x8 x9 x10 : Operand} {v0 v1 v2 v3 v4 v5 v6 v7 v8 v9 v10 : Value} (f : Frm n l a) (h0 : opv l x0 = some v0) (h1 : opv l x1 = some v1) (h2 : opv l x2 = some v2) (h3 : opv l x3 = some v3) (h4 : opv l x4 = some v4) (h5 : opv l x5 = some v5) (h6 : opv l x6 = some v6) (h7 : opv l x7 = some v7) (h8 : opv l x8 = some v8) (h9 : opv l x9 = some v9) (h10 : opv l x10 = some v10) : (#[(i0, x0), (i1, x1), (i2, x2), (i3, x3), (i4, x4), (i5, x5), (i6, x6), (i7, x7), (i8, x8), (i9, x9), (i10, x10)] : Array (Nat × Operand)).map (fun (i, x) => (i, a.eval x)) = #[(i0, v0), (i1, v1), (i2, v2), (i3, v3), (i4, v4), (i5, v5), (i6, v6), (i7, v7), (i8, v8), (i9, v9), (i10, v10)] := by
  simp [f.ev h0, f.ev h1, f.ev h2, f.ev h3, f.ev h4, f.ev h5, f.ev h6, f.ev h7, f.ev h8, f.ev h9, f.ev h10]
theorem pt12 {i0 i1 i2 i3 i4 i5 i6 i7 i8 i9 i10 i11 : Nat} {x0 x1 x2 x3 x4 x5 x6 x7 x8 x9 x10 x11 : Operand} {v0 v1 v2 v3 v4 v5 v6 v7 v8 v9 v10 v11 : Value} (f : Frm n l a) (h0 : opv l x0 = some v0) (h1 : opv l x1 = some v1) (h2 : opv l x2 = some v2) (h3 : opv l x3 = some v3) (h4 : opv l x4 = some v4) (h5 : opv l x5 = some v5) (h6 : opv l x6 = some v6) (h7 : opv l x7 = some v7) (h8 : opv l x8 = some v8) (h9 : opv l x9 = some v9) (h10 : opv l x10 = some v10) (h11 : opv l x11 = some v11) : (#[(i0, x0), (i1, x1), (i2, x2), (i3, x3), (i4, x4), (i5, x5), (i6, x6), (i7, x7), (i8, x8), (i9, x9), (i10, x10), (i11, x11)] : Array (Nat × Operand)).map (fun (i, x) => (i, a.eval x)) = #[(i0, v0), (i1, v1), (i2, v2), (i3, v3), (i4, v4), (i5, v5), (i6, v6), (i7, v7), (i8, v8), (i9, v9), (i10, v10), (i11, v11)] := by
  simp [f.ev h0, f.ev h1, f.ev h2, f.ev h3, f.ev h4, f.ev h5, f.ev h6, f.ev h7, f.ev h8, f.ev h9, f.ev h10, f.ev h11]
theorem pt32 {i0 i1 i2 i3 i4 i5 i6 i7 i8 i9 i10 i11 i12 i13 i14 i15 i16 i17 i18 i19 i20 i21 i22 i23 i24 i25 i26 i27 i28 i29 i30 i31 : Nat} {x0 x1 x2 x3 x4 x5 x6 x7 x8 x9 x10 x11 x12 x13 x14 x15 x16 x17 x18 x19 x20 x21 x22 x23 x24 x25 x26 x27 x28 x29 x30 x31 : Operand} {v0 v1 v2 v3 v4 v5 v6 v7 v8 v9 v10 v11 v12 v13 v14 v15 v16 v17 v18 v19 v20 v21 v22 v23 v24 v25 v26 v27 v28 v29 v30 v31 : Value} (f : Frm n l a) (h0 : opv l x0 = some v0) (h1 : opv l x1 = some v1) (h2 : opv l x2 = some v2) (h3 : opv l x3 = some v3) (h4 : opv l x4 = some v4) (h5 : opv l x5 = some v5) (h6 : opv l x6 = some v6) (h7 : opv l x7 = some v7) (h8 : opv l x8 = some v8) (h9 : opv l x9 = some v9) (h10 : opv l x10 = some v10) (h11 : opv l x11 = some v11) (h12 : opv l x12 = some v12) (h13 : opv l x13 = some v13) (h14 : opv l x14 = some v14) (h15 : opv l x15 = some v15) (h16 : opv l x16 = some v16) (h17 : opv l x17 = some v17) (h18 : opv l x18 = some v18) (h19 : opv l x19 = some v19) (h20 : opv l x20 = some v20) (h21 : opv l x21 = some v21) (h22 : opv l x22 = some v22) (h23 : opv l x23 = some v23) (h24 : opv l x24 = some v24) (h25 : opv l x25 = some v25) (h26 : opv l x26 = some v26) (h27 : opv l x27 = some v27) (h28 : opv l x28 = some v28) (h29 : opv l x29 = some v29) (h30 : opv l x30 = some v30) (h31 : opv l x31 = some v31) : (#[(i0, x0), (i1, x1), (i2, x2), (i3, x3), (i4, x4), (i5, x5), (i6, x6), (i7, x7), (i8, x8), (i9, x9), (i10, x10), (i11, x11), (i12, x12), (i13, x13), (i14, x14), (i15, x15), (i16, x16), (i17, x17), (i18, x18), (i19, x19), (i20, x20), (i21, x21), (i22, x22), (i23, x23), (i24, x24), (i25, x25), (i26, x26), (i27, x27), (i28, x28), (i29, x29), (i30, x30), (i31, x31)] : Array (Nat × Operand)).map (fun (i, x) => (i, a.eval x)) = #[(i0, v0), (i1, v1), (i2, v2), (i3, v3), (i4, v4), (i5, v5), (i6, v6), (i7, v7), (i8, v8), (i9, v9), (i10, v10), (i11, v11), (i12, v12), (i13, v13), (i14, v14), (i15, v15), (i16, v16), (i17, v17), (i18, v18), (i19, v19), (i20, v20), (i21, v21), (i22, v22), (i23, v23), (i24, v24), (i25, v25), (i26, v26), (i27, v27), (i28, v28), (i29, v29), (i30, v30), (i31, v31)] := by
  simp [f.ev h0, f.ev h1, f.ev h2, f.ev h3, f.ev h4, f.ev h5, f.ev h6, f.ev h7, f.ev h8, f.ev h9, f.ev h10, f.ev h11, f.ev h12, f.ev h13, f.ev h14, f.ev h15, f.ev h16, f.ev h17, f.ev h18, f.ev h19, f.ev h20, f.ev h21, f.ev h22, f.ev h23, f.ev h24, f.ev h25, f.ev h26, f.ev h27, f.ev h28, f.ev h29, f.ev h30, f.ev h31]
end
/-- All parts of a literal, in their order. -/
theorem fill_from (sz : Nat) : ∀ (vs : List Value) (k : Nat) (cur : Array Value), (∀ v ∈ vs, v.cells.size = sz) → (k + vs.length) * sz ≤ cur.size →
    Instr.fill (fun i => some (i * sz, sz)) cur ((List.range' k vs.length).zip vs) = some (cur.toList.take (k * sz) ++ vs.flatMap (·.cells.toList) ++ cur.toList.drop ((k + vs.length) * sz)).toArray
  | [], k, cur, _, _ => by simp [Instr.fill]
  | v :: vs, k, cur, h, hk => by
    have hv : v.cells.size = sz := h v (by simp)
    have hk2 : (k + 1) * sz ≤ cur.size := Nat.le_trans (Nat.mul_le_mul_right _ (by simp only [List.length_cons]; omega)) hk
    have hk3 : k * sz + sz ≤ cur.size := by rw [Nat.add_mul, Nat.one_mul] at hk2; exact hk2
    have key : ∀ (cs : List Value) (j : Nat) (c : Array Value), k * sz + j + cs.length ≤ c.size →
        (cs.zipIdx j).foldl (fun a (x : Value × Nat) => a.setIfInBounds (k * sz + x.2) x.1) c = (c.toList.take (k * sz + j) ++ cs ++ c.toList.drop (k * sz + j + cs.length)).toArray := by
      intro cs
      induction cs with
      | nil => intro j c _; simp
      | cons x cs ih =>
        intro j c hc
        simp only [List.length_cons] at hc
        simp only [List.zipIdx_cons, List.foldl_cons]
        rw [ih (j + 1) _ (by simp only [Array.size_setIfInBounds]; omega)]
        apply Array.ext'
        simp only [Array.toList_setIfInBounds]
        apply List.ext_getElem?
        intro i
        simp only [List.getElem?_append, List.getElem?_take, List.getElem?_drop, List.length_append, List.length_take, List.length_set, Array.length_toList, List.getElem?_set, List.length_cons, List.getElem?_cons]
        repeat' split
        all_goals (first | rfl | omega | (congr 1; omega) | skip)
        all_goals (try simp_all)
        all_goals (try omega)
        all_goals (first | done | (congr 1; omega) | (simp; omega) | skip)
    have step : (v.cells.zipIdx.foldl (fun cs (x : Value × Nat) => cs.setIfInBounds (k * sz + x.2) x.1) cur) = (cur.toList.take (k * sz) ++ v.cells.toList ++ cur.toList.drop ((k + 1) * sz)).toArray := by
      have h1 := key v.cells.toList 0 cur (by simp [hv]; omega)
      rw [← Array.foldl_toList, Array.toList_zipIdx]
      rw [h1, Nat.add_zero, Array.length_toList, hv, Nat.add_mul, Nat.one_mul]
    simp only [List.length_cons, List.range'_succ, List.zip_cons_cons, Instr.fill]
    rw [if_neg (by simp [hv]; omega)]
    have ih := fill_from sz vs (k + 1) (cur.toList.take (k * sz) ++ v.cells.toList ++ cur.toList.drop ((k + 1) * sz)).toArray (fun u hu => h u (by simp [hu])) (by
      simp only [List.size_toArray, List.length_append, List.length_take, List.length_drop, Array.length_toList, hv]
      simp only [List.length_cons] at hk
      have e1 : (k + 1 + vs.length) * sz = (k + (vs.length + 1)) * sz := by congr 1; omega
      have e2 : (k + 1) * sz = k * sz + sz := by rw [Nat.add_mul, Nat.one_mul]
      rw [e1]
      omega)
    refine Eq.trans ?_ (Eq.trans ih ?_)
    · congr 1
    · have hl : (cur.toList.take (k * sz) ++ v.cells.toList).length = (k + 1) * sz := by
        simp [hv, Nat.add_mul]; omega
      congr 2
      rw [List.take_append, hl, Nat.sub_self, List.take_zero, List.append_nil, List.take_of_length_le (by rw [hl]; exact Nat.le_refl _), List.drop_append, hl, List.drop_drop]
      rw [List.drop_of_length_le (by rw [hl]; exact Nat.mul_le_mul_right _ (by omega))]
      simp only [List.flatMap_cons, List.append_assoc, List.nil_append]
      congr 4
      rw [← Nat.sub_mul, ← Nat.add_mul]
      congr 1
      omega
theorem fill_lit {sz m : Nat} {z : Value} (vs : List Value) {parts : List (Nat × Value)} (hm : vs.length = m) (hp : (List.range' 0 m).zip vs = parts) (h : ∀ v ∈ vs, v.cells.size = sz) :
    Instr.fill (fun i => some (i * sz, sz)) (zeroRow z (m * sz)) parts = some (vs.flatMap (·.cells.toList)).toArray := by
  subst hm; subst hp
  have hs : (zeroRow z (vs.length * sz)).size = vs.length * sz := by unfold zeroRow; simp
  rw [fill_from sz vs 0 _ h (by rw [hs]; simp)]
  simp [hs, List.drop_of_length_le]
theorem arith_eql {k : IntKind} {x y : Int} : arith .eql k x y = some (.bool (decide (x = y))) := by
  simp only [arith, Option.some.injEq, Value.bool.injEq]; by_cases h : x = y <;> simp [h]
theorem arith_neq {k : IntKind} {x y : Int} : arith .neq k x y = some (.bool (decide (x ≠ y))) := by
  simp only [arith, Option.some.injEq, Value.bool.injEq]; by_cases h : x = y <;> simp [h]
section
variable {P : Program} {ops : Array Oper} {Q : Exit → Act → World → Prop} {a : Act} {w : World} {rest : List Oper} {n : Nat} {l : List (Nat × Value)}
  {d : Tmp} {ty : TypeId} {pos : String} {after : Array Edge} {g : Option (Nat × Bool)}
theorem run_equalIn_nil {T e : TypeId} {p : Option Addr} {k c : Nat} (m : Nat) (hT : P.underlying T = some (.slice e)) : (Op.equalIn (m + 1) T (.slice p k c) (.slice none 0 0)).run P w = .ok (decide (p = none)) w := by
  cases p <;> simp [Op.equalIn, run_underlying hT]
theorem run_eql_nil {T e : TypeId} {p : Option Addr} {k c : Nat} (hT : P.underlying T = some (.slice e)) : (binOp .eql T (.slice p k c) (.slice none 0 0)).run P w = .ok (.bool (decide (p = none))) w := by
  have h : (Op.equalIn 10000 T (.slice p k c) (.slice none 0 0)).run P w = .ok (decide (p = none)) w := run_equalIn_nil 9999 hT
  show (do pure (.bool (← Op.equalIn 10000 T (.slice p k c) (.slice none 0 0))) : Sem Value).run P w = _
  simp [h]
theorem run_neq_nil {T e : TypeId} {p : Option Addr} {k c : Nat} (hT : P.underlying T = some (.slice e)) : (binOp .neq T (.slice p k c) (.slice none 0 0)).run P w = .ok (.bool (decide (p ≠ none))) w := by
  have h : (Op.equalIn 10000 T (.slice p k c) (.slice none 0 0)).run P w = .ok (decide (p = none)) w := run_equalIn_nil 9999 hT
  show (do pure (.bool (!(← Op.equalIn 10000 T (.slice p k c) (.slice none 0 0)))) : Sem Value).run P w = _
  simp [h]
theorem s_eqlNil {T T' e : TypeId} {x y : Operand} {p : Option Addr} {k c : Nat} (f : Frm n l a)
    (hw : Region.wanted ⟨some d, .binOp .eql T x y T', ty, pos, after, g⟩ (yielded ops a.tmps) = true) (hd : Nat.blt d n = true)
    (hT : P.underlying T = some (.slice e)) (hx : opv l x = some (.slice p k c)) (hy : opv l y = some (.slice none 0 0))
    (cc : ∀ a', Frm n ((d, .bool (decide (p = none))) :: l) a' → wpList P ops Q rest a' w) : wpList P ops Q (⟨some d, .binOp .eql T x y T', ty, pos, after, g⟩ :: rest) a w :=
  stv f hw hd (exec_bin (by rw [f.ev hx, f.ev hy]; rfl) (by rw [f.ev hx, f.ev hy]; exact run_eql_nil hT)) cc
theorem s_neqNil {T T' e : TypeId} {x y : Operand} {p : Option Addr} {k c : Nat} (f : Frm n l a)
    (hw : Region.wanted ⟨some d, .binOp .neq T x y T', ty, pos, after, g⟩ (yielded ops a.tmps) = true) (hd : Nat.blt d n = true)
    (hT : P.underlying T = some (.slice e)) (hx : opv l x = some (.slice p k c)) (hy : opv l y = some (.slice none 0 0))
    (cc : ∀ a', Frm n ((d, .bool (decide (p ≠ none))) :: l) a' → wpList P ops Q rest a' w) : wpList P ops Q (⟨some d, .binOp .neq T x y T', ty, pos, after, g⟩ :: rest) a w :=
  stv f hw hd (exec_bin (by rw [f.ev hx, f.ev hy]; rfl) (by rw [f.ev hx, f.ev hy]; exact run_neq_nil hT)) cc
/-- A conversion between slice types of bytes: the block is marked, no cell turns. -/
theorem freeze_cell (a' p : Addr) (k : Nat) : (w.freeze a' k).cell? p = w.cell? p := by
  unfold World.freeze
  split
  · rfl
  · by_cases h : a'.block = p.block
    · simp only [World.cell?, Array.getElem?_modify, h, if_true]
      cases w.heap[p.block]? with
      | none => simp
      | some o => cases o <;> simp
    · simp only [World.cell?, Array.getElem?_modify, if_neg h]
theorem freeze_gr (a' : Addr) (k : Nat) : w.grownBy (w.freeze a' k) (some a'.block) := by
  unfold World.freeze
  split
  · exact ⟨rfl, rfl, rfl, Nat.le_refl _, fun _ _ _ => rfl⟩
  · refine ⟨rfl, rfl, rfl, by simp, fun j hj hne => ?_⟩
    simp only [Array.getElem?_modify]
    rw [if_neg (fun e => hne (by rw [e]))]
theorem t_convSame {α : Type} {E : Enc α} {T e : TypeId} {x : Operand} {p : Option Addr} {c B Te : Nat} {ls : List α} (f : Frm n l a)
    (hw : Region.wanted ⟨some d, .convert T T x, ty, pos, after, g⟩ (yielded ops a.tmps) = true) (hd : Nat.blt d n = true)
    (hT : P.underlying T = some (.slice e)) (hE : P.underlying e = some (.int .u8)) (hx : opv l x = some (.slice p ls.length c)) (ho : OwL E w B Te p c ls) (hp : p ≠ none)
    (cc : ∀ a' w', Frm n ((d, .slice p ls.length c) :: l) a' → w.grownBy w' (sblk p) → RdL E w' p c ls → wpList P ops Q rest a' w') : wpList P ops Q (⟨some d, .convert T T x, ty, pos, after, g⟩ :: rest) a w := by
  rcases ho.2 with ⟨hv, _⟩ | ⟨g', cap, cur, hv, _, hg, h1, h2, h3, h4⟩
  · simp only [Value.slice.injEq] at hv; exact absurd hv.1 hp
  · simp only [Value.slice.injEq, true_and] at hv
    obtain ⟨rfl, rfl⟩ := hv
    have hsh : w.shape? g' = some (Te, cur.size) := by simp [World.shape?, hg]
    refine stv (v := .slice (some ⟨g', 0, none⟩) ls.length c) (w' := w.freeze { block := g', off := cur.size } 1) f hw hd ?_ (fun a' f' => cc a' _ f' (freeze_gr _ _) ?_)
    · have hm : (markStringish ⟨g', 0, none⟩).run P w = .ok () (w.freeze { block := g', off := cur.size } 1) := by
        simp [markStringish, shape, freeze, hsh, bind, Sem.bind, Sem.run]
      simp [execOp, f.ev hx, convert, run_underlying hT, run_underlying hE, hm]
    · have hr := ho.rd
      refine ⟨hr.1, hr.2.imp id ?_⟩
      rintro ⟨b, o, sp, cap, hv, k1, k2, k3, k4⟩
      exact ⟨b, o, sp, cap, hv, k1, k2, k3, fun j u hu => by rw [freeze_cell]; exact k4 j u hu⟩
end
theorem OwL.ne_none {α : Type} {E : Enc α} {w : World} {B T : Nat} {p : Option Addr} {c : Nat} {ls : List α} (h : OwL E w B T p c ls) (hl : ls ≠ []) : p ≠ none := fun e => by
  subst e; exact hl h.rd.of_none
theorem nat_u64 (x : Nat) (h : x ≤ 18446744073709551615) : IntKind.u64.wrap (x : Int) = (x : Int) := wrap_u64 (by omega) rfl
theorem nat_u32 (x : Nat) (h : x ≤ 4294967295) : IntKind.u32.wrap (x : Int) = (x : Int) := wrap_u32 (by omega) rfl
theorem nat_i64 (x : Nat) (h : x ≤ 9223372036854775807) : IntKind.i64.wrap (x : Int) = (x : Int) := wrap_i64 (by omega) rfl
theorem nat_i32 (x : Nat) (h : x ≤ 2147483647) : IntKind.i32.wrap (x : Int) = (x : Int) := wrap_i32 (by omega) rfl
theorem g_skip {n : Nat} {l : List (Nat × Value)} {a : Act} {ops : Array Oper} {o : Oper} {j t : Nat} {b : Bool} (f : Frm n l a) (hg : o.guard = some (j, b)) (hj : (ops[j]?).bind (·.dst) = some t) (hl : look l t = some undef) :
    Region.wanted o (yielded ops a.tmps) = false := by
  have : yielded ops a.tmps j = none := by simp [yielded, hj, f.slots _ _ hl, undef]
  simp [Region.wanted, hg, this]
theorem tup2 {a b c d : Value} (h : a = c) (k : b = d) : retv [a, b] = .tuple #[c, d] := by subst h; subst k; rfl
theorem tup3 {a b c d e g : Value} (h : a = d) (k : b = e) (m : c = g) : retv [a, b, c] = .tuple #[d, e, g] := by subst h; subst k; subst m; rfl
theorem tup4 {a b c d a' b' c' d' : Value} (h : a = a') (k : b = b') (m : c = c') (q : d = d') : retv [a, b, c, d] = .tuple #[a', b', c', d'] := by subst h; subst k; subst m; subst q; rfl
theorem cut_lo {α} (l : List α) (i : Nat) : (l.drop i).take (l.length - i) = l.drop i := List.take_of_length_le (by simp)
theorem cut_hi {α} (l : List α) (j : Nat) : (l.drop 0).take (j - 0) = l.take j := by simp
theorem spl_all (C D : Array Value) (h : C.size = D.size) : spl C 0 D.toList = D := by
  unfold spl
  have : D.toList.length = C.size := by simp [h]
  have h2 : C.toList.drop C.size = [] := List.drop_of_length_le (by simp)
  simp [this, h2]
theorem idcell (x : ID32) (i : Nat) (h : i < x.bytes.length) : (idsE.of x).toArray[i]? = some (.int .u8 ((x.bytes[i]).toNat : Int)) := by
  show (x.bytes.map encB).toArray[i]? = _
  simp [h, encB]
theorem quo_i64 {x y : Nat} (h : (x : Int) ≤ 9223372036854775807) (hy : 0 < y) : IntKind.i64.wrap ((x : Int).tdiv (y : Int)) = ((x / y : Nat) : Int) := by
  have e : (x : Int).tdiv (y : Int) = ((x / y : Nat) : Int) := by rw [Int.tdiv_eq_ediv_of_nonneg (by omega)]; rfl
  rw [e]
  have : x / y ≤ x := Nat.div_le_self _ _
  generalize x / y = q at this
  exact wrap_i64 (by omega) rfl
theorem quo_u64 {x y : Nat} (h : (x : Int) ≤ 18446744073709551615) (hy : 0 < y) : IntKind.u64.wrap ((x : Int).tdiv (y : Int)) = ((x / y : Nat) : Int) := by
  have e : (x : Int).tdiv (y : Int) = ((x / y : Nat) : Int) := by rw [Int.tdiv_eq_ediv_of_nonneg (by omega)]; rfl
  rw [e]
  have : x / y ≤ x := Nat.div_le_self _ _
  generalize x / y = q at this
  exact wrap_u64 (by omega) rfl
theorem quo_u32 {x y : Nat} (h : (x : Int) ≤ 4294967295) (hy : 0 < y) : IntKind.u32.wrap ((x : Int).tdiv (y : Int)) = ((x / y : Nat) : Int) := by
  have e : (x : Int).tdiv (y : Int) = ((x / y : Nat) : Int) := by rw [Int.tdiv_eq_ediv_of_nonneg (by omega)]; rfl
  rw [e]
  have : x / y ≤ x := Nat.div_le_self _ _
  generalize x / y = q at this
  exact wrap_u32 (by omega) rfl
theorem rem_nat (x y : Nat) : (x : Int).tmod (y : Int) = ((x % y : Nat) : Int) := by rw [Int.tmod_eq_emod_of_nonneg (by omega)]; rfl
theorem shr_nat (x s b : Nat) (h : s ≤ b) : (x : Int).fdiv (2 ^ (min (s : Int).toNat b)) = ((x / 2 ^ s : Nat) : Int) := by
  rw [Int.toNat_natCast, Nat.min_eq_left h, Int.fdiv_eq_ediv_of_nonneg _ (by exact Int.le_of_lt (Int.pow_pos (by decide)))]
  rw [Int.natCast_ediv, Int.natCast_pow]; rfl
theorem shl_u64 (x s : Nat) (hs : s ≤ 64) (h : x * 2 ^ s < 18446744073709551616) : IntKind.u64.wrap ((x : Int) * 2 ^ (min (s : Int).toNat IntKind.u64.bits)) = ((x * 2 ^ s : Nat) : Int) := by
  have h64 : IntKind.u64.bits = 64 := rfl
  rw [Int.toNat_natCast, h64, Nat.min_eq_left hs]
  have e : ((x : Int) * 2 ^ s) = ((x * 2 ^ s : Nat) : Int) := by rw [Int.natCast_mul, Int.natCast_pow]; rfl
  rw [e]
  exact wrap_u64 (by omega) rfl
end Go.Proofs.Ytklfgpdfongaeaa
