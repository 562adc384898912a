/- Data compared with '==': arrays and structs. Over any program. -/
import Derived.Test.YtklfgpdfongaeaaKA
import Derived.ChangeKeysEq
import Derived.Laws.StructEq
namespace Go.Proofs.Ytklfgpdfongaeaa
open Go Go.RowKit
set_option linter.unusedSimpArgs false
set_option linter.unusedVariables false

section
variable {P : Program}
/-- Values of type T that represent data by R are compared as the data are (k: how deep the type is). -/
def EqR {α : Type} [DecidableEq α] (P : Program) (T : TypeId) (R : Rep α) (k : Nat) : Prop :=
  ∀ (d : Nat), k ≤ d → ∀ (S : Blk) (w : World) (c c' : List Value) (x y : α), R.rel S w c x → R.rel S w c' y → ∀ w', (Op.equalIn d T (R.val c) (R.val c')).run P w' = .ok (decide (x = y)) w'
theorem EqR.num {α : Type} [DecidableEq α] {T : TypeId} {k : IntKind} {f : α → Int} (hT : P.underlying T = some (.int k)) (hf : ∀ x y, f x = f y → x = y) : EqR P T (numR k f) 1 := fun d hd S w c c' x y h h' w' => by
  have h : c = [.int k (f x)] := h
  have h' : c' = [.int k (f y)] := h'
  subst h; subst h'
  obtain ⟨n, rfl⟩ : ∃ n, d = n + 1 := ⟨d - 1, by omega⟩
  show (Op.equalIn (n + 1) T (.int k (f x)) (.int k (f y))).run P w' = _
  rw [Go.run_equalIn_int w' n T k k _ _ hT]
  congr 1
  by_cases e : x = y
  · subst e; simp
  · rw [decide_eq_false e]; exact beq_false_of_ne (fun h => e (hf _ _ h))
theorem EqR.i64 {T : TypeId} (hT : P.underlying T = some (.int .i64)) : EqR P T i64R 1 := EqR.num hT (fun _ _ h => h)
theorem EqR.i32 {T : TypeId} (hT : P.underlying T = some (.int .i32)) : EqR P T i32R 1 := EqR.num hT (fun _ _ h => h)
theorem EqR.u8 {T : TypeId} (hT : P.underlying T = some (.int .u8)) : EqR P T u8R 1 := EqR.num hT (fun _ _ h => UInt8.toNat_inj.1 (Int.ofNat.inj h))
theorem EqR.u32 {T : TypeId} (hT : P.underlying T = some (.int .u32)) : EqR P T u32R 1 := EqR.num hT (fun _ _ h => UInt32.toNat_inj.1 (Int.ofNat.inj h))
theorem EqR.u64 {T : TypeId} (hT : P.underlying T = some (.int .u64)) : EqR P T u64R 1 := EqR.num hT (fun _ _ h => UInt64.toNat_inj.1 (Int.ofNat.inj h))
theorem EqR.bool {T : TypeId} (hT : P.underlying T = some .bool) : EqR P T boolR 1 := fun d hd S w c c' x y h h' w' => by
  have h : c = [.bool x] := h
  have h' : c' = [.bool y] := h'
  subst h; subst h'
  obtain ⟨n, rfl⟩ : ∃ n, d = n + 1 := ⟨d - 1, by omega⟩
  show (Op.equalIn (n + 1) T (.bool x) (.bool y)).run P w' = _
  rw [Go.run_equalIn_bool' w' n T _ _ hT]
  cases x <;> cases y <;> rfl
theorem EqR.str {T : TypeId} (hT : P.underlying T = some .string) : EqR P T strR 1 := fun d hd S w c c' x y h h' w' => by
  obtain ⟨s, rfl, rfl⟩ := h
  obtain ⟨t, rfl, rfl⟩ := h'
  obtain ⟨n, rfl⟩ : ∃ n, d = n + 1 := ⟨d - 1, by omega⟩
  show (Op.equalIn (n + 1) T (.string s) (.string t)).run P w' = _
  rw [Go.run_equalIn_string w' n T _ _ hT, toList_data, toList_data]
  congr 1
  rw [Bool.eq_iff_iff]; simp
theorem run_part {α : Type} {R : Rep α} {S : Blk} {w : World} {T : TypeId} {x : α} {a c d : List Value} {xs : Array Value} (hx : xs.toList = a ++ c ++ d) (hr : R.rel S w c x) (hT : TyIs P T R.agg R.sz) (w' : World) : (part T xs a.length).run P w' = .ok (R.val c) w' := by
  have hlen := R.len hr
  unfold part
  unfold TyIs at hT
  unfold Rep.val
  cases ha : R.agg with
  | true =>
    rw [ha, if_pos rfl] at hT
    obtain ⟨⟨ds, h1, h2⟩, z, by_, h3⟩ := hT
    have hag : (isAgg T).run P w' = .ok true w' := by
      cases ds <;> simp only at h2 <;> simp [isAgg, run_underlying h1]
    have he : xs.extract a.length (a.length + R.sz) = c.toArray := by
      apply Array.toList_inj.1
      rw [Array.toList_extract, hx, List.extract_eq_take_drop, List.append_assoc, List.drop_left', ← hlen]
      · simp
      · rfl
    simp only [Sem.run_bind, hag, Result.andThen, if_true, run_sizeOf h3, Sem.run_pure, he]
    rfl
  | false =>
    rw [ha, if_neg (by simp)] at hT
    obtain ⟨ds, h1, h2⟩ := hT
    have hag : (isAgg T).run P w' = .ok false w' := by
      cases ds <;> simp only at h2 <;> simp [isAgg, run_underlying h1]
    rw [R.scal ha] at hlen
    match c, hlen with
    | [u], _ =>
      have he : xs[a.length]? = some u := by rw [← Array.getElem?_toList, hx]; simp
      simp only [Sem.run_bind, hag, Result.andThen, Bool.false_eq_true, if_false, he, Sem.run_pure]
      rfl
theorem EqR.items {α : Type} [DecidableEq α] {R : Rep α} {e : TypeId} {k d : Nat} (hE : EqR P e R k) (hk : k ≤ d) (hT : TyIs P e R.agg R.sz) {S : Blk} {w : World} {xs ys : Array Value} {l m : List α} (hx : relL R S w xs.toList l) (hy : relL R S w ys.toList m) (w' : World) : ∀ (is : List Nat), (∀ i ∈ is, i < l.length ∧ i < m.length) →
    (Op.eqItems d e R.sz xs ys is).run P w' = .ok (is.all fun i => decide (l[i]? = m[i]?)) w'
  | [], _ => rfl
  | i :: is, h => by
    obtain ⟨h1, h2⟩ := h i (by simp)
    obtain ⟨a, c, dd, e1, e2, e3, -⟩ := hx.split (List.getElem?_eq_getElem h1)
    obtain ⟨a', c', dd', f1, f2, f3, -⟩ := hy.split (List.getElem?_eq_getElem h2)
    have ih := EqR.items hE hk hT hx hy w' is (fun j hj => h j (by simp [hj]))
    have p1 := run_part (P := P) e1 e3 hT w'
    have p2 := run_part (P := P) f1 f3 hT w'
    rw [e2] at p1
    rw [f2] at p2
    have p3 := hE d hk S w c c' _ _ e3 f3 w'
    simp only [Op.eqItems, Sem.run_bind, p1, p2, p3, Result.andThen]
    rw [List.all_cons, List.getElem?_eq_getElem h1, List.getElem?_eq_getElem h2]
    by_cases hc : l[i] = m[i]
    · simp [hc, ih]
    · simp [hc, Sem.run_pure]
theorem EqR.arr {α : Type} [DecidableEq α] {R : Rep α} {T e : TypeId} {n k : Nat} {z : Value} {by_ : Nat} (hE : EqR P e R k) (hT : P.underlying T = some (.array n e)) (hI : TI P e z R.sz by_) (hTy : TyIs P e R.agg R.sz) : EqR P T (arrR n R) (k + 1) := fun d hd S w c c' x y h h' w' => by
  obtain ⟨d', rfl⟩ : ∃ d', d = d' + 1 := ⟨d - 1, by omega⟩
  obtain ⟨i, hi, -, hs, -⟩ := hI
  have hc : P.cellsOf e = R.sz := by unfold Program.cellsOf; rw [hi]; simpa using hs
  show (Op.equalIn (d' + 1) T (.agg c.toArray) (.agg c'.toArray)).run P w' = _
  rw [Go.run_equalIn_array w' d' c.toArray c'.toArray hT hi, hc, EqR.items hE (by omega) hTy (l := x.toList) (m := y.toList) h h' w' (List.range n) (fun i hi => by simpa using hi)]
  congr 1
  by_cases hxy : x = y
  · subst hxy; simp
  · rw [decide_eq_false hxy]
    refine Bool.eq_false_iff.2 fun h2 => hxy ?_
    apply Vector.toList_inj.1
    apply List.ext_getElem?
    intro i
    by_cases hi : i < n
    · have := List.all_eq_true.1 h2 i (by simpa using hi)
      exact of_decide_eq_true this
    · rw [List.getElem?_eq_none (by simp; omega), List.getElem?_eq_none (by simp; omega)]
/-- the fields of a struct from an offset on -/
def EqF {γ : Type} [DecidableEq γ] (P : Program) (fs : List Field) (o : Nat) (R : Rep γ) (k : Nat) : Prop :=
  ∀ (d : Nat), k ≤ d → ∀ (S : Blk) (w : World) (xs ys : Array Value) (x y : γ) (a a' : List Value), xs.toList = a ++ xs.toList.drop o → ys.toList = a' ++ ys.toList.drop o → a.length = o → a'.length = o → R.rel S w (xs.toList.drop o) x → R.rel S w (ys.toList.drop o) y → ∀ w', (Op.eqFields d xs ys fs).run P w' = .ok (decide (x = y)) w'
theorem EqF.nil {o : Nat} : EqF P [] o unitR 0 := fun d hd S w xs ys x y a a' _ _ _ _ h h' w' => by simp [Op.eqFields, Sem.run_pure]
theorem EqF.cons {α β : Type} [DecidableEq α] [DecidableEq β] {R : Rep α} {R2 : Rep β} {f : Field} {fs : List Field} {o k k2 : Nat} (h1 : EqR P f.type R k) (hT : TyIs P f.type R.agg R.sz) (ho : f.offset = o) (hn : (f.name == "_") = false) (h2 : EqF P fs (o + R.sz) R2 k2) : EqF P (f :: fs) o (prodR R R2) (max k k2) := fun d hd S w xs ys x y a a' hx hy ha ha' h h' w' => by
  obtain ⟨c, r, e1, e2, e3⟩ := h
  obtain ⟨c', r', f1, f2, f3⟩ := h'
  have hlc := R.len e2
  have hlc' := R.len f2
  have hdx : xs.toList.drop (o + R.sz) = r := by rw [← List.drop_drop, e1, ← hlc]; simp
  have hdy : ys.toList.drop (o + R.sz) = r' := by rw [← List.drop_drop, f1, ← hlc']; simp
  have p1 := run_part (P := P) (xs := xs) (a := a) (c := c) (d := r) (by rw [List.append_assoc, ← e1]; exact hx) e2 hT w'
  have p2 := run_part (P := P) (xs := ys) (a := a') (c := c') (d := r') (by rw [List.append_assoc, ← f1]; exact hy) f2 hT w'
  rw [ha] at p1
  rw [ha'] at p2
  have p3 := h1 d (by omega) S w c c' x.1 y.1 e2 f2 w'
  have ih := h2 d (by omega) S w xs ys x.2 y.2 (a ++ c) (a' ++ c') (by rw [hdx, List.append_assoc, ← e1]; exact hx) (by rw [hdy, List.append_assoc, ← f1]; exact hy) (by simp [ha, hlc]) (by simp [ha', hlc']) (by rw [hdx]; exact e3) (by rw [hdy]; exact f3) w'
  have hne : f.name ≠ "_" := by simpa using hn
  simp only [Op.eqFields, if_pos hne, Sem.run_bind, ho, p1, p2, p3, Result.andThen]
  by_cases hc : x.1 = y.1
  · simp only [hc, decide_true, Bool.not_true, Bool.false_eq_true, if_false, ih]
    congr 1
    rw [decide_eq_decide]
    exact ⟨fun h => Prod.ext hc h, fun h => by rw [h]⟩
  · have hxy : x ≠ y := fun h => hc (by rw [h])
    simp [hc, hxy, Sem.run_pure]
theorem EqR.struct {β γ : Type} [DecidableEq β] [DecidableEq γ] {R : Rep γ} {g : β → γ} {T : TypeId} {fs : Array Field} {k : Nat} (hF : EqF P fs.toList 0 R k) (hT : P.underlying T = some (.struct fs)) (hp : P.stoodInHeld T = false) (hg : ∀ x y, g x = g y → x = y) (hag : R.agg = true) : EqR P T (viaR g R) (k + 1) := fun d hd S w c c' x y h h' w' => by
  obtain ⟨d', rfl⟩ : ∃ d', d = d' + 1 := ⟨d - 1, by omega⟩
  have hfs : P.fieldsOf T = fs := by simp [Program.fieldsOf, hT]
  have e1 : (viaR g R).val c = .agg c.toArray := by simp [Rep.val, viaR, hag]
  have e2 : (viaR g R).val c' = .agg c'.toArray := by simp [Rep.val, viaR, hag]
  rw [e1, e2, Go.run_equalIn_struct w' d' T _ _ (by rw [hfs]; exact hT) hp, hfs]
  rw [hF d' (by omega) S w c.toArray c'.toArray (g x) (g y) [] [] (by simp) (by simp) rfl rfl (by simpa using (show R.rel S w c (g x) from h)) (by simpa using (show R.rel S w c' (g y) from h')) w']
  congr 1
  rw [decide_eq_decide]
  exact ⟨fun h => hg _ _ h, fun h => by rw [h]⟩
end
section
variable {C : World → World → Prop} {P : Program} {Γ : Ctx} {l : Slots} {res : Res} {d : Tmp} {ty : TypeId} {pos : String} {after : Array Edge} {g : Option (Nat × Bool)}
theorem eqA {α : Type} [DecidableEq α] {R : Rep α} {T T' : TypeId} {x y : Operand} {a b : α} {k : Nat} (hx : opE l x = some (.rd R a)) (hy : opE l y = some (.rd R b)) (hE : EqR P T R k) (hk : Nat.ble k 10000 = true) (hag : R.agg = true) (hg : P.eqGuardType P.depth T = false) : Run C P Γ l res ⟨some d, .binOp .eql T x y T', ty, pos, after, g⟩ (.rd boolR (decide (a = b))) := fun f w ha => by
  obtain ⟨c, h1, h2⟩ := ha.vl hx
  obtain ⟨c', h3, h4⟩ := ha.vl hy
  have e1 : f.eval x = .agg c.toArray := by rw [h2]; simp [Rep.val, hag]
  have e2 : f.eval y = .agg c'.toArray := by rw [h4]; simp [Rep.val, hag]
  refine ⟨_, fun w' _ => exec_bin (v := .bool (decide (a = b))) ?_ ?_, rd_bool'⟩
  · rw [e1, e2]; exact Go.run_eqGuard_agg w' .eql T x y _ _ hg
  · have := hE 10000 (Nat.le_of_ble_eq_true hk) _ w c c' a b h1 h3 w'
    rw [show R.val c = .agg c.toArray by simp [Rep.val, hag], show R.val c' = .agg c'.toArray by simp [Rep.val, hag]] at this
    rw [e1, e2, Go.run_eql_struct, this]; rfl
theorem neA {α : Type} [DecidableEq α] {R : Rep α} {T T' : TypeId} {x y : Operand} {a b : α} {k : Nat} (hx : opE l x = some (.rd R a)) (hy : opE l y = some (.rd R b)) (hE : EqR P T R k) (hk : Nat.ble k 10000 = true) (hag : R.agg = true) (hg : P.eqGuardType P.depth T = false) : Run C P Γ l res ⟨some d, .binOp .neq T x y T', ty, pos, after, g⟩ (.rd boolR (!decide (a = b))) := fun f w ha => by
  obtain ⟨c, h1, h2⟩ := ha.vl hx
  obtain ⟨c', h3, h4⟩ := ha.vl hy
  have e1 : f.eval x = .agg c.toArray := by rw [h2]; simp [Rep.val, hag]
  have e2 : f.eval y = .agg c'.toArray := by rw [h4]; simp [Rep.val, hag]
  refine ⟨_, fun w' _ => exec_bin (v := .bool (!decide (a = b))) ?_ ?_, rd_bool'⟩
  · rw [e1, e2]; exact Go.run_eqGuard_agg w' .neq T x y _ _ hg
  · have := hE 10000 (Nat.le_of_ble_eq_true hk) _ w c c' a b h1 h3 w'
    rw [show R.val c = .agg c.toArray by simp [Rep.val, hag], show R.val c' = .agg c'.toArray by simp [Rep.val, hag]] at this
    rw [e1, e2, Go.run_neq_struct, this]; rfl
end
end Go.Proofs.Ytklfgpdfongaeaa
