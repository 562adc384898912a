import Derived.Test.YtjnheeekdadcpaaGreatDoorGe
set_option linter.unusedSimpArgs false
set_option linter.unusedVariables false
namespace Go.Proofs.YtjnheeekdadcpaaGreatDoor
section
open Go
theorem nodup_inj {α : Type} {l : List α} (h : l.Nodup) {i j : Nat} (hi : i < l.length) (hj : j < l.length) (e : l[i] = l[j]) : i = j := by
  rcases Nat.lt_trichotomy i j with c | c | c
  · exact absurd e (List.pairwise_iff_getElem.1 h i j hi hj c)
  · exact c
  · exact absurd e.symm (List.pairwise_iff_getElem.1 h j i hj hi c)
inductive Wf (P : Nat → List Nat) : Nat → Prop
  | mk (i : Nat) : (∀ p ∈ P i, Wf P p) → Wf P i
theorem Wf.inv {P : Nat → List Nat} {i : Nat} (h : Wf P i) : ∀ p ∈ P i, Wf P p := by cases h; assumption
def cnt (P : Nat → List Nat) (T : List Nat) (i : Nat) : Int := (((P i).filter fun p => !decide (p ∈ T)).length : Int)
theorem cnt_zero {P : Nat → List Nat} {T : List Nat} {i : Nat} : cnt P T i = 0 ↔ ∀ p ∈ P i, p ∈ T := by
  unfold cnt
  constructor
  · intro h p hp
    have h0 : ((P i).filter fun p => !decide (p ∈ T)) = [] := List.length_eq_zero_iff.1 (by omega)
    rw [List.filter_eq_nil_iff] at h0
    simpa using h0 p hp
  · intro h
    have h0 : ((P i).filter fun p => !decide (p ∈ T)) = [] := by
      rw [List.filter_eq_nil_iff]
      intro p hp
      simpa using h p hp
    rw [h0]; rfl
theorem cnt_nil (P : Nat → List Nat) (i : Nat) : cnt P [] i = ((P i).length : Int) := by
  unfold cnt
  rw [List.filter_eq_self.2 (fun a _ => by simp)]
theorem cnt_le (P : Nat → List Nat) (T : List Nat) (i : Nat) : cnt P T i ≤ ((P i).length : Int) := by
  unfold cnt
  have := List.length_filter_le (fun p => !decide (p ∈ T)) (P i)
  omega
theorem filter_snoc {T : List Nat} {x : Nat} (hx : x ∉ T) : ∀ l : List Nat, l.Nodup → (l.filter fun p => !decide (p ∈ T)).length = (l.filter fun p => !decide (p ∈ T ++ [x])).length + (if x ∈ l then 1 else 0)
  | [], _ => by simp
  | a :: l, h => by
    have hn := List.nodup_cons.1 h
    have ih := filter_snoc hx l hn.2
    by_cases ha : a = x
    · subst ha
      rw [if_neg hn.1] at ih
      rw [if_pos (by simp), List.filter_cons_of_pos (by simpa using hx), List.filter_cons_of_neg (by simp), List.length_cons, ih]
    · have e : (x ∈ a :: l) ↔ (x ∈ l) := by
        rw [List.mem_cons]; exact ⟨fun h => h.resolve_left fun e => ha e.symm, .inr⟩
      by_cases hT : a ∈ T
      · rw [List.filter_cons_of_neg (by simp [hT]), List.filter_cons_of_neg (by simp [hT]), ih]
        simp only [e]
      · rw [List.filter_cons_of_pos (by simp [hT]), List.filter_cons_of_pos (by simp [hT, ha]), List.length_cons, List.length_cons, ih]
        simp only [e]; omega
theorem cnt_in {P : Nat → List Nat} {T : List Nat} {x i : Nat} (hx : x ∉ T) (hn : (P i).Nodup) (hi : x ∈ P i) : cnt P T i = cnt P (T ++ [x]) i + 1 := by
  unfold cnt
  rw [filter_snoc hx _ hn, if_pos hi]; omega
theorem cnt_out {P : Nat → List Nat} {T : List Nat} {x i : Nat} (hx : x ∉ T) (hn : (P i).Nodup) (hi : x ∉ P i) : cnt P T i = cnt P (T ++ [x]) i := by
  unfold cnt
  rw [filter_snoc hx _ hn, if_neg hi]; omega
structure GoodP (P : Nat → List Nat) (n : Nat) : Prop where
  n60 : n ≤ 60
  nodup : ∀ i, (P i).Nodup
  four : ∀ i, (P i).length ≤ 4
  lt : ∀ i, ∀ p ∈ P i, p < n
def over (P : Nat → List Nat) (n x : Nat) : List Nat := (List.range n).filter fun k => decide (x ∈ P k)
theorem over_mem {P : Nat → List Nat} {n x k : Nat} : k ∈ over P n x ↔ k < n ∧ x ∈ P k := by unfold over; simp
theorem over_nodup (P : Nat → List Nat) (n x : Nat) : (over P n x).Nodup := List.Pairwise.filter _ List.nodup_range
structure Got (P : Nat → List Nat) (n : Nat) (Q : List Nat) : Prop where
  nodup : Q.Nodup
  lt : ∀ x ∈ Q, x < n
  wf : ∀ x ∈ Q, Wf P x
theorem Got.len {P : Nat → List Nat} {n : Nat} {Q : List Nat} (h : Got P n Q) : Q.length ≤ n := by
  have := nodup_le Q (List.range n) h.nodup fun x hx => by simpa using h.lt x hx
  simpa using this
variable {P : Nat → List Nat} {n : Nat}
theorem L8_run (E : GoodP P n) (Q : List Nat) (pos : Nat) (hp : pos < Q.length) (hQ : Got P n Q) (hd : ∀ i, i < n → (i ∈ Q ↔ cnt P (Q.take pos) i = 0)) :
    ∃ b : List Int × List Int, iter (dag_shape_L8 (il (over P n Q[pos]))) (tab n (cnt P (Q.take pos)), il Q, 0) = some b ∧ ∃ R, b = (tab n (cnt P ((Q ++ R).take (pos + 1))), il (Q ++ R)) ∧ Got P n (Q ++ R) ∧ ∀ i, i < n → (i ∈ Q ++ R ↔ cnt P ((Q ++ R).take (pos + 1)) i = 0) := by
  have hx : Q[pos] ∉ Q.take pos := by
    intro hm
    obtain ⟨j, hj, e⟩ := List.getElem_of_mem hm
    rw [List.getElem_take] at e
    rw [List.length_take] at hj
    have := nodup_inj hQ.nodup _ _ e
    omega
  have htk : ∀ R : List Nat, (Q ++ R).take (pos + 1) = Q.take pos ++ [Q[pos]] := fun R => by
    rw [List.take_append_of_le_length (by omega), List.take_add_one, List.getElem?_eq_getElem hp]; rfl
  let T := Q.take pos
  let x := Q[pos]
  have hwx : Wf P x := hQ.wf x (List.getElem_mem hp)
  have hwT : ∀ y ∈ T, Wf P y := fun y hy => hQ.wf y (List.mem_of_mem_take hy)
  let c := fun (j i : Nat) => if i ∈ (over P n x).take j then cnt P (T ++ [x]) i else cnt P T i
  have hc_in : ∀ j i, i ∈ (over P n x).take j → c j i = cnt P (T ++ [x]) i := fun j i h => if_pos h
  have hc_out : ∀ j i, i ∉ (over P n x).take j → c j i = cnt P T i := fun j i h => if_neg h
  have hcnt2 : ∀ i, cnt P (T ++ [x]) i = 0 → Wf P i := fun i hi => .mk i fun p hpi => by
    have := cnt_zero.1 hi p hpi
    rcases List.mem_append.1 this with h | h
    · exact hwT p h
    · rw [List.mem_singleton] at h; subst h; exact hwx
  have main := iter_up (F := dag_shape_L8 (il (over P n x))) (over P n x).length
    (fun j st => ∃ R, st = (tab n (c j), il (Q ++ R), (j : Int)) ∧ Got P n (Q ++ R) ∧ ∀ i, i < n → (i ∈ Q ++ R ↔ c j i = 0))
    (fun b => ∃ R, b = (tab n (c (over P n x).length), il (Q ++ R)) ∧ Got P n (Q ++ R) ∧ ∀ i, i < n → (i ∈ Q ++ R ↔ c (over P n x).length i = 0))
    (fun j st hj hst => by
      obtain ⟨R, rfl, hR, hm⟩ := hst
      have hyo : (over P n x)[j] ∈ over P n x := List.getElem_mem hj
      obtain ⟨hyn, hyx⟩ := over_mem.1 hyo
      have hyt : (over P n x)[j] ∉ (over P n x).take j := by
        intro hm
        obtain ⟨k, hk, e⟩ := List.getElem_of_mem hm
        rw [List.getElem_take] at e
        rw [List.length_take] at hk
        have := nodup_inj (over_nodup P n x) _ _ e
        omega
      have hcy : c j (over P n x)[j] = cnt P (T ++ [x]) (over P n x)[j] + 1 := by
        rw [hc_out _ _ hyt]; exact cnt_in hx (E.nodup _) hyx
      have hcl : cnt P T (over P n x)[j] ≤ 4 := by have := cnt_le P T (over P n x)[j]; have := E.four (over P n x)[j]; omega
      have h0 : 0 ≤ cnt P (T ++ [x]) (over P n x)[j] := by unfold cnt; omega
      have hcs : cnt P T (over P n x)[j] = cnt P (T ++ [x]) (over P n x)[j] + 1 := cnt_in hx (E.nodup _) hyx
      have hnot : (over P n x)[j] ∉ Q ++ R := by
        rw [hm _ hyn, hcy]; omega
      have hcy1 : c (j + 1) (over P n x)[j] = cnt P (T ++ [x]) (over P n x)[j] := by
        refine hc_in _ _ ?_
        rw [List.take_add_one, List.getElem?_eq_getElem hj]
        exact List.mem_append.2 (.inr (List.mem_singleton.2 rfl))
      have hc1 : ∀ i, i ≠ (over P n x)[j] → c (j + 1) i = c j i := fun i hne => by
        show (if _ then _ else _) = (if _ then _ else _)
        have : (i ∈ (over P n x).take (j + 1)) ↔ (i ∈ (over P n x).take j) := by
          rw [List.take_add_one, List.getElem?_eq_getElem hj, List.mem_append]
          exact ⟨fun h => h.resolve_right fun e => hne (List.mem_singleton.1 e), .inl⟩
        simp only [this]
      have hset : (tab n (c j)).set (over P n x)[j] (cnt P (T ++ [x]) (over P n x)[j]) = tab n (c (j + 1)) := tab_set hyn hcy1 fun i _ hne => hc1 i hne
      have hov : (over P n x).length ≤ n := by
        have := List.length_filter_le (fun k => decide (x ∈ P k)) (List.range n)
        unfold over; simpa using this
      have hn60 := E.n60
      have hlen := hR.len
      have hF : dag_shape_L8 (il (over P n x)) (tab n (c j), il (Q ++ R), (j : Int)) = if cnt P (T ++ [x]) (over P n x)[j] == 0 then some (.inr (tab n (c (j + 1)), il (Q ++ R) ++ [((over P n x)[j] : Int)], ((j + 1 : Nat) : Int))) else some (.inr (tab n (c (j + 1)), il (Q ++ R), ((j + 1 : Nat) : Int))) := by
        unfold dag_shape_L8
        rw [if_pos (by rw [il_len]; simpa using hj)]
        simp only []
        rw [il_idx hj]
        simp only [bS]
        rw [tab_idx hyn, hcy]
        simp only [bS]
        rw [w64_eq (x := _ - 1) (by omega) (by omega), show cnt P (T ++ [x]) (over P n x)[j] + 1 - 1 = cnt P (T ++ [x]) (over P n x)[j] by omega]
        simp only [bS, Int.toNat_natCast]
        rw [hset, tab_idx hyn, hcy1]
        simp only [bS]
        rw [app_eq (by rw [il_len]; simp only [List.length_cons, List.length_nil]; omega), w64_nat (by omega)]
        simp only [bS]
      by_cases hz : cnt P (T ++ [x]) (over P n x)[j] = 0
      · rw [if_pos (by simpa using hz)] at hF
        refine ⟨_, hF, R ++ [(over P n x)[j]], ?_, ?_, ?_⟩
        · rw [← List.append_assoc, il_app (Q ++ R)]; rfl
        · rw [← List.append_assoc]
          refine ⟨?_, ?_, ?_⟩
          · rw [List.nodup_append]
            exact ⟨hR.nodup, by simp, fun a ha b hb e => by
              rw [List.mem_singleton] at hb; subst hb; exact hnot (e ▸ ha)⟩
          · intro y hy
            rcases List.mem_append.1 hy with h | h
            · exact hR.lt y h
            · rw [List.mem_singleton] at h; subst h; exact hyn
          · intro y hy
            rcases List.mem_append.1 hy with h | h
            · exact hR.wf y h
            · rw [List.mem_singleton] at h; subst h; exact hcnt2 _ hz
        · intro i hi
          rw [← List.append_assoc, List.mem_append, List.mem_singleton]
          by_cases hne : i = (over P n x)[j]
          · subst hne
            rw [hcy1]
            exact ⟨fun _ => hz, fun _ => .inr rfl⟩
          · rw [hc1 i hne, ← hm i hi]
            exact ⟨fun h => h.resolve_right hne, .inl⟩
      · rw [if_neg (by simpa using hz)] at hF
        refine ⟨_, hF, R, rfl, hR, ?_⟩
        intro i hi
        by_cases hne : i = (over P n x)[j]
        · subst hne
          rw [hcy1]
          exact ⟨fun h => absurd h hnot, fun h => absurd h hz⟩
        · rw [hc1 i hne, ← hm i hi])
    (fun st hst => by
      obtain ⟨R, rfl, hR, hm⟩ := hst
      refine ⟨_, ?_, R, rfl, hR, hm⟩
      unfold dag_shape_L8
      rw [if_neg (by rw [il_len]; simp)])
    (tab n (cnt P T), il Q, ((0 : Nat) : Int)) 0 (Nat.zero_le _) ⟨[], by rw [List.append_nil]; rfl, by rw [List.append_nil]; exact hQ, by rw [List.append_nil]; exact hd⟩
  have hend : ∀ i, i < n → c (over P n x).length i = cnt P (T ++ [x]) i := fun i hi => by
    by_cases hm : i ∈ over P n x
    · exact hc_in _ _ (by rw [List.take_length]; exact hm)
    · rw [hc_out _ _ (by rw [List.take_length]; exact hm)]
      exact cnt_out hx (E.nodup i) fun h => hm (over_mem.2 ⟨hi, h⟩)
  obtain ⟨b, h1, R, h2, h3, h4⟩ := main
  refine ⟨b, h1, R, ?_, h3, fun i hi => ?_⟩
  · rw [h2, htk R]
    congr 1
    exact tab_congr hend
  · rw [h4 i hi, hend i hi, htk R]
theorem L6_run (E : GoodP P n) (s : List Int × List (List Int) × List Int) (hs : s.2.1 = tab n fun x => il (over P n x)) : ∃ b : Int, iter (dag_shape_L6 s) (tab n (cnt P []), il ((List.range n).filter fun k => decide ((P k).length = 0)), 0) = some b ∧ ∃ Q : List Nat, b = (Q.length : Int) ∧ Q.Nodup ∧ ∀ i, i ∈ Q ↔ i < n ∧ Wf P i := by
  have hn60 := E.n60
  refine iter_inv (F := dag_shape_L6 s)
    (fun st => ∃ (Q : List Nat) (pos : Nat), st = (tab n (cnt P (Q.take pos)), il Q, (pos : Int)) ∧ pos ≤ Q.length ∧ Got P n Q ∧ ∀ i, i < n → (i ∈ Q ↔ cnt P (Q.take pos) i = 0))
    (fun st => n - st.2.2.toNat) _ ?_ _ ⟨(List.range n).filter fun k => decide ((P k).length = 0), 0, by rw [List.take_zero]; rfl, Nat.zero_le _, ?_, ?_⟩
  · rintro st ⟨Q, pos, rfl, h1, h2, h3⟩
    have hlen := h2.len
    by_cases hp : pos < Q.length
    · right
      obtain ⟨b, e1, R, rfl, e3, e4⟩ := L8_run E Q pos hp h2 h3
      have hx := h2.lt _ (List.getElem_mem hp)
      refine ⟨_, ?_, ⟨Q ++ R, pos + 1, rfl, by rw [List.length_append]; omega, e3, e4⟩, ?_⟩
      · unfold dag_shape_L6
        rw [if_pos (by rw [il_len]; simpa using hp)]
        simp only []
        rw [il_idx hp, hs]
        simp only [bS]
        rw [tab_idx hx]
        simp only [bS]
        rw [e1, w64_nat (by omega)]
        simp only [bS]
      · simp only [Int.toNat_natCast]; omega
    · left
      have hpe : pos = Q.length := by omega
      subst hpe
      refine ⟨(Q.length : Int), ?_, Q, rfl, h2.nodup, fun i => ⟨fun h => ⟨h2.lt i h, h2.wf i h⟩, fun h => ?_⟩⟩
      · unfold dag_shape_L6
        rw [if_neg (by rw [il_len]; simp)]
      · obtain ⟨hi, hw⟩ := h
        rw [List.take_length] at h3
        revert hi
        induction hw with
        | mk i hpi ih =>
          intro hi
          rw [h3 i hi, cnt_zero]
          exact fun p hpp => ih p hpp (E.lt i p hpp)
  · refine ⟨List.Pairwise.filter _ List.nodup_range, fun x hx => ?_, fun x hx => ?_⟩
    · simp only [List.mem_filter, List.mem_range] at hx; exact hx.1
    · simp only [List.mem_filter, List.mem_range, decide_eq_true_eq] at hx
      refine .mk x fun p hp => ?_
      rw [List.length_eq_zero_iff.1 hx.2] at hp; simp at hp
  · intro i hi
    rw [List.take_zero, cnt_nil]
    simp only [List.mem_filter, List.mem_range, decide_eq_true_eq]
    omega
end
section
open Go
variable {g : api_Graph}
theorem allIn_at (h : allIn g = true) (i : Nat) : ∀ x ∈ opAt g i, x ∈ g.IDs := by
  unfold opAt
  by_cases hi : i < g.Ops.length
  · rw [List.getElem?_eq_getElem hi]
    unfold allIn at h
    rw [List.all_eq_true] at h
    have := h _ (List.getElem_mem hi)
    rw [List.all_eq_true] at this
    exact fun x hx => by simpa using this x hx
  · rw [List.getElem?_eq_none (by omega)]
    exact fun x hx => by simp at hx
theorem goodP (E : GoodE g) (h : allIn g = true) : GoodP (preds g) g.Ops.length := by
  refine ⟨E.len, fun i => ?_, fun i => ?_, fun i p hp => ?_⟩
  · unfold preds
    rw [List.Nodup, List.pairwise_map]
    exact (E.nodup i).imp_of_mem fun {a b} ha hb hne e => hne (idxOf_inj (allIn_at h i b hb) e)
  · unfold preds; rw [List.length_map]; exact E.four i
  · unfold preds at hp
    rw [List.mem_map] at hp
    obtain ⟨x, hx, rfl⟩ := hp
    rw [← E.ids]
    exact List.idxOf_lt_length_of_mem (allIn_at h i x hx)
def idAt (g : api_Graph) (i : Nat) : ID := match g.IDs[i]? with | some x => x | none => z32
theorem idAt_get {i : Nat} (h : i < g.IDs.length) : idAt g i = g.IDs[i] := by unfold idAt; rw [List.getElem?_eq_getElem h]
theorem idAt_idx {x : ID} (h : x ∈ g.IDs) : idAt g (g.IDs.idxOf x) = x := by
  rw [idAt_get (List.idxOf_lt_length_of_mem h)]; simp
theorem idx_idAt (E : GoodE g) {i : Nat} (h : i < g.Ops.length) : g.IDs.idxOf (idAt g i) = i := by
  have hi : i < g.IDs.length := by rw [E.ids]; exact h
  rw [idAt_get hi]; exact idxOf_at E.ri hi
theorem placed_iff (E : GoodE g) {Q : List Nat} (hQ : ∀ x ∈ Q, x < g.Ops.length) {x : ID} (hx : x ∈ g.IDs) : x ∈ Q.map (idAt g) ↔ g.IDs.idxOf x ∈ Q := by
  rw [List.mem_map]
  constructor
  · rintro ⟨q, hq, rfl⟩; rw [idx_idAt E (hQ q hq)]; exact hq
  · exact fun h => ⟨_, h, idAt_idx hx⟩
theorem all_placed (E : GoodE g) (h : allIn g = true) {Q : List Nat} (hQ : ∀ x ∈ Q, x < g.Ops.length) (i : Nat) : ((opAt g i).all fun x => decide (x ∈ Q.map (idAt g))) = decide (∀ p ∈ preds g i, p ∈ Q) := by
  rw [Bool.eq_iff_iff, List.all_eq_true, decide_eq_true_iff]
  unfold preds
  constructor
  · intro hx p hp
    rw [List.mem_map] at hp
    obtain ⟨x, hx', rfl⟩ := hp
    exact (placed_iff E hQ (allIn_at h i x hx')).1 (by simpa using hx x hx')
  · intro hp x hx
    rw [decide_eq_true_iff]
    exact (placed_iff E hQ (allIn_at h i x hx)).2 (hp _ (List.mem_map.2 ⟨x, hx, rfl⟩))
def Topo (P : Nat → List Nat) (Q : List Nat) : Prop := ∀ k (h : k < Q.length), ∀ p ∈ P Q[k], p ∈ Q.take k
theorem Topo.snoc {P : Nat → List Nat} {Q : List Nat} {i : Nat} (h : Topo P Q) (hi : ∀ p ∈ P i, p ∈ Q) : Topo P (Q ++ [i]) := by
  intro k hk p hp
  by_cases hkq : k < Q.length
  · rw [List.getElem_append_left hkq] at hp
    rw [List.take_append_of_le_length (by omega)]
    exact h k hkq p hp
  · have hk' : k = Q.length := by simp at hk; omega
    subst hk'
    rw [List.getElem_append_right (by omega)] at hp
    simp at hp
    rw [List.take_left' rfl]
    exact hi p hp
def ordSt (g : api_Graph) (Q : List Nat) (b : Bool) : (List Int) × (List ID) × (List Bool) × Bool := (il Q, Q.map (idAt g), tab g.Ops.length (fun i => decide (i ∈ Q)), b)
theorem ord_L2 (E : GoodE g) (h : allIn g = true) (Q : List Nat) (hQ : Got (preds g) g.Ops.length Q) (hT : Topo (preds g) Q) :
    ∃ b : Sum (List Int) ((List Int) × (List ID) × (List Bool) × Bool), iter (braidref09_Order_L2 g (ordSt g Q true)) 0 = some b ∧
      ((∃ i, b = .inr (ordSt g (Q ++ [i]) true) ∧ Got (preds g) g.Ops.length (Q ++ [i]) ∧ Topo (preds g) (Q ++ [i]) ∧ i < g.Ops.length ∧ i ∉ Q ∧ (∀ p ∈ preds g i, p ∈ Q) ∧ ∀ k, k < i → (∀ p ∈ preds g k, p ∈ Q) → k ∈ Q) ∨ (b = .inr (ordSt g Q false) ∧ ∀ i, i < g.Ops.length → (∀ p ∈ preds g i, p ∈ Q) → i ∈ Q)) := by
  have hlen := E.len
  have hql := hQ.len
  refine iter_inv (F := braidref09_Order_L2 g (ordSt g Q true)) (fun s => ∃ i : Nat, s = (i : Int) ∧ i ≤ g.Ops.length ∧ ∀ k, k < i → (∀ p ∈ preds g k, p ∈ Q) → k ∈ Q) (fun s => g.Ops.length - s.toNat) _ ?_ _ ⟨0, rfl, Nat.zero_le _, fun k hk => by omega⟩
  rintro s ⟨i, rfl, h1, h2⟩
  by_cases hi : i < g.Ops.length
  · have hcond : (idx (tab g.Ops.length fun i => decide (i ∈ Q)) (i : Int) >>= fun x12 => if !x12 then idx g.Ops (i : Int) >>= fun x15 => braidref09_All (Q.map (idAt g)) x15.Preds >>= fun r17 => some r17 else some false) = some (!decide (i ∈ Q) && decide (∀ p ∈ preds g i, p ∈ Q)) := by
      rw [tab_idx hi]
      simp only [bS]
      by_cases hm : i ∈ Q
      · rw [decide_eq_true hm]; rfl
      · rw [decide_eq_false hm, if_pos (by simp), idx_nat hi]
        simp only [bS]
        have h4 := (E.op i hi).1
        rw [all_eq _ _ (by rw [List.length_map]; omega) (by omega)]
        simp only [bS]
        rw [← opAt_get hi, all_placed E h hQ.lt]; rfl
    by_cases hm : i ∈ Q
    · right
      refine ⟨((i + 1 : Nat) : Int), ?_, ⟨i + 1, rfl, hi, fun k hk hp => ?_⟩, by simp; omega⟩
      · unfold braidref09_Order_L2
        rw [if_pos (by simpa using hi)]
        show ((idx (tab g.Ops.length fun i => decide (i ∈ Q)) (i : Int) >>= fun x12 => if !x12 then idx g.Ops (i : Int) >>= fun x15 => braidref09_All (Q.map (idAt g)) x15.Preds >>= fun r17 => some r17 else some false) >>= _) = _
        rw [hcond, decide_eq_true hm, w64_nat (by omega)]
        rfl
      · by_cases hk' : k = i
        · subst hk'; exact hm
        · exact h2 k (by omega) hp
    · by_cases hp : ∀ p ∈ preds g i, p ∈ Q
      · left
        refine ⟨_, ?_, .inl ⟨i, rfl, ?_, hT.snoc hp, hi, hm, hp, h2⟩⟩
        · have hii : i < g.IDs.length := by rw [E.ids]; exact hi
          unfold braidref09_Order_L2
          rw [if_pos (by simpa using hi)]
          show ((idx (tab g.Ops.length fun i => decide (i ∈ Q)) (i : Int) >>= fun x12 => if !x12 then idx g.Ops (i : Int) >>= fun x15 => braidref09_All (Q.map (idAt g)) x15.Preds >>= fun r17 => some r17 else some false) >>= _) = _
          rw [hcond, decide_eq_false hm, decide_eq_true hp]
          simp only [bS]
          rw [if_pos (by simp), idx_nat hii]
          simp only [bS]
          rw [show (ordSt g Q true).1 = il Q from rfl, show (ordSt g Q true).2.1 = Q.map (idAt g) from rfl, show (ordSt g Q true).2.2.1 = tab g.Ops.length (fun i => decide (i ∈ Q)) from rfl]
          rw [app_eq (by rw [il_len]; simp only [List.length_cons, List.length_nil]; omega)]
          simp only [bS]
          rw [app_eq (by rw [List.length_map]; simp only [List.length_cons, List.length_nil]; omega), tab_idx hi]
          simp only [bS, Int.toNat_natCast]
          rw [tab_set (g := fun j => decide (j ∈ Q ++ [i])) hi (by simp) (fun j _ hj => by simp [hj])]
          unfold ordSt
          rw [il_app, List.map_append, ← idAt_get hii]
          rfl
        · refine ⟨?_, ?_, ?_⟩
          · rw [List.nodup_append]
            exact ⟨hQ.nodup, by simp, fun a ha b hb e => by
              rw [List.mem_singleton] at hb; subst hb; exact hm (e ▸ ha)⟩
          · intro y hy
            rcases List.mem_append.1 hy with h | h
            · exact hQ.lt y h
            · rw [List.mem_singleton] at h; subst h; exact hi
          · intro y hy
            rcases List.mem_append.1 hy with h | h
            · exact hQ.wf y h
            · rw [List.mem_singleton] at h; subst h; exact .mk _ fun p hpp => hQ.wf p (hp p hpp)
      · right
        refine ⟨((i + 1 : Nat) : Int), ?_, ⟨i + 1, rfl, hi, fun k hk hpk => ?_⟩, by simp; omega⟩
        · unfold braidref09_Order_L2
          rw [if_pos (by simpa using hi)]
          show ((idx (tab g.Ops.length fun i => decide (i ∈ Q)) (i : Int) >>= fun x12 => if !x12 then idx g.Ops (i : Int) >>= fun x15 => braidref09_All (Q.map (idAt g)) x15.Preds >>= fun r17 => some r17 else some false) >>= _) = _
          rw [hcond, decide_eq_false hp, w64_nat (by omega), Bool.and_false]
          rfl
        · by_cases hk' : k = i
          · subst hk'; exact absurd hpk hp
          · exact h2 k (by omega) hpk
  · left
    have : i = g.Ops.length := by omega
    subst this
    refine ⟨_, ?_, .inr ⟨rfl, h2⟩⟩
    unfold braidref09_Order_L2
    rw [if_neg (by simp)]
    rfl
theorem order_eq (E : GoodE g) (h : allIn g = true) : ∃ Q : List Nat, braidref09_Order g = some (il Q) ∧ Got (preds g) g.Ops.length Q ∧ Topo (preds g) Q ∧ ∀ i, i ∈ Q ↔ i < g.Ops.length ∧ Wf (preds g) i := by
  have hP := goodP E h
  have hlen := E.len
  have main := iter_inv (F := braidref09_Order_L0 g)
    (fun s => ∃ Q b, s = ordSt g Q b ∧ Got (preds g) g.Ops.length Q ∧ Topo (preds g) Q ∧ (b = false → ∀ i, i < g.Ops.length → (∀ p ∈ preds g i, p ∈ Q) → i ∈ Q))
    (fun s => (g.Ops.length - s.1.length) + (if s.2.2.2 then 1 else 0))
    (fun r => ∃ Q : List Nat, r = il Q ∧ Got (preds g) g.Ops.length Q ∧ Topo (preds g) Q ∧ ∀ i, i ∈ Q ↔ i < g.Ops.length ∧ Wf (preds g) i)
    (fun s hs => by
      obtain ⟨Q, b, rfl, h1, h2, h3⟩ := hs
      have hql := h1.len
      cases b with
      | false =>
        left
        refine ⟨il Q, rfl, Q, rfl, h1, h2, fun i => ⟨fun hi => ⟨h1.lt i hi, h1.wf i hi⟩, fun hi => ?_⟩⟩
        obtain ⟨hi, hw⟩ := hi
        revert hi
        induction hw with
        | mk i hpi ih => exact fun hi => h3 rfl i hi fun p hp => ih p hp (hP.lt i p hp)
      | true =>
        right
        obtain ⟨r, e1, e2⟩ := ord_L2 E h Q h1 h2
        rcases e2 with ⟨i, rfl, e3, e4, _⟩ | ⟨rfl, e3⟩
        · refine ⟨_, ?_, ⟨Q ++ [i], true, rfl, e3, e4, by simp⟩, ?_⟩
          · unfold braidref09_Order_L0
            exact (if_pos rfl).trans e1
          · have := e3.len
            simp only [ordSt, il_len, List.length_append, List.length_cons, List.length_nil] at this ⊢
            omega
        · refine ⟨_, ?_, ⟨Q, false, rfl, h1, h2, fun _ => e3⟩, ?_⟩
          · unfold braidref09_Order_L0
            exact (if_pos rfl).trans e1
          · simp [ordSt])
    ([], [], List.replicate g.Ops.length false, true) ⟨[], true, by unfold ordSt; rw [tab_const]; simp [il], ⟨by simp, by simp, by simp⟩, fun k hk => by simp at hk, by simp⟩
  obtain ⟨r, e1, Q, rfl, e2, e3, e4⟩ := main
  refine ⟨Q, ?_, e2, e3, e4⟩
  unfold braidref09_Order
  rw [mkn_eq (by omega) (by omega)]
  simp only [bS]
  rw [e1]
  simp only [bS]
theorem full_iff {n : Nat} {Q : List Nat} (hn : Q.Nodup) (hl : ∀ x ∈ Q, x < n) : ¬ Q.length < n ↔ ∀ i, i < n → i ∈ Q := by
  constructor
  · intro h i hi
    refine Decidable.byContradiction fun hm => ?_
    have := nodup_le (i :: Q) (List.range n) (List.nodup_cons.2 ⟨hm, hn⟩) fun x hx => by
      rcases List.mem_cons.1 hx with rfl | hx
      · simpa using hi
      · simpa using hl x hx
    simp at this; omega
  · intro h
    have := nodup_le (List.range n) Q List.nodup_range fun x hx => h x (by simpa using hx)
    simp at this; omega
def AllWf (g : api_Graph) : Prop := ∀ i, i < g.Ops.length → Wf (preds g) i
theorem shape_eq (hl : g.Ops.length ≤ 60) (hi : g.IDs.length = g.Ops.length) (ho : ∀ i (h : i < g.Ops.length), (g.Ops[i]).Preds.length ≤ 4 ∧ incr (g.Ops[i]).Preds = true) :
    ∃ c : Int, dag_shape g = some c ∧ braidref09_shape g = some c ∧ (c = 0 ↔ incr g.IDs = true ∧ allIn g = true ∧ AllWf g) := by
  have s0 := shape_L0 g (by omega)
  unfold dag_shape braidref09_shape
  rw [s0, Rising_eq _ (by omega)]
  simp only [bS]
  by_cases hr : incr g.IDs = true
  · rw [if_pos hr, hr, if_neg (by simp), mkn_eq (by omega) (by omega)]
    simp only [bS]
    rw [mkn_eq (by omega) (by omega)]
    simp only [bS]
    have E : GoodE g := ⟨hl, hi, hr, ho⟩
    have h2 := L2_run E g.Ops [] rfl
    have h3 := refAll_run E g.Ops [] rfl
    have i1 : tab g.Ops.length (indeg g 0) = List.replicate g.Ops.length 0 := by
      rw [tab_const]; exact tab_congr fun j _ => by unfold indeg; rw [if_neg (by omega)]
    have i2 : tab g.Ops.length (fun x => il (succs g 0 x)) = List.replicate g.Ops.length [] := by
      rw [tab_const]; exact tab_congr fun j _ => by unfold succs; simp [il]
    have i3 : il (ready g 0) = [] := by unfold ready; simp [il]
    simp only [List.length_nil] at h2 h3
    rw [i1, i2, i3] at h2
    rw [show (0 : Int) = ((0 : Nat) : Int) from rfl] at *
    rw [h2, h3]
    cases ha : g.Ops.all fun o => o.Preds.all fun x => decide (x ∈ g.IDs) with
    | false => exact ⟨40, rfl, rfl, by simp [allIn, ha]⟩
    | true =>
      have ha' : allIn g = true := ha
      obtain ⟨Q, q1, q2, q3, q4⟩ := order_eq E ha'
      have hP := goodP E ha'
      have i4 : tab g.Ops.length (indeg g g.Ops.length) = tab g.Ops.length (cnt (preds g) []) := tab_congr fun j hj => by
        unfold indeg; rw [if_pos hj, cnt_nil]
      obtain ⟨b, k1, R, rfl, k2, k3⟩ := L6_run hP (tab g.Ops.length (indeg g g.Ops.length), tab g.Ops.length (fun x => il (succs g g.Ops.length x)), il (ready g g.Ops.length)) rfl
      have hRQ : R.length = Q.length := nodup_len k2 q2.nodup fun x => by rw [k3, q4]
      simp only [if_true, or_r]
      rw [i4] at k1
      rw [i4, show il (ready g g.Ops.length) = il ((List.range g.Ops.length).filter fun k => decide ((preds g k).length = 0)) from rfl] at *
      rw [show ((0 : Nat) : Int) = 0 from rfl] at *
      rw [k1, q1]
      simp only [bS]
      rw [il_len, hRQ]
      have hfull := full_iff q2.nodup q2.lt
      by_cases hc : Q.length < g.Ops.length
      · rw [if_pos (by simpa using hc)]
        refine ⟨36, rfl, rfl, by simp, fun h => ?_⟩
        have := hfull.2 fun i hi => (q4 i).2 ⟨hi, h.2.2 i hi⟩
        exact absurd hc this
      · rw [if_neg (by simpa using hc)]
        exact ⟨0, rfl, rfl, fun _ => ⟨by first | exact hr | trivial, ha', fun i hi => ((q4 i).1 (hfull.1 hc i hi)).2⟩, fun _ => rfl⟩
  · have hr' : incr g.IDs = false := by simpa using hr
    rw [if_neg hr, hr']
    exact ⟨32, rfl, rfl, by simp [hr']⟩
def okOps (g : api_Graph) : Prop := ∀ i (h : i < g.Ops.length), opBad g.Ops[i] = 0 ∧ sha (encOp g.Ops[i]) = idAt g i
structure GoodG (g : api_Graph) : Prop where
  e : GoodE g
  ops : okOps g
  ins : allIn g = true
  wf : AllWf g
theorem opBad_code {a : api_Op} (h : opBad a = 0) : opCode a = 0 := by
  unfold opBad at h
  by_cases hc : opCode a = 0
  · exact hc
  · rw [if_neg hc] at h; exact h
theorem wf_op {g : api_Graph} (h : wf_api_Graph g) {o : api_Op} (ho : o ∈ g.Ops) : inI o.Act.Value.Num ∧ o.Act.Value.Text.length ≤ 9223372036854775807 := by
  have := h.2.1.1 o ho
  exact ⟨this.2.2.2.1.2.2.1.2.1, this.2.2.2.1.2.2.1.2.2.2.1⟩
def goodOp (g : api_Graph) (i : Nat) (o : api_Op) : Bool := decide (opBad o = 0) && decide (sha (encOp o) = idAt g i)
theorem check_L0 (hw : wf_api_Graph g) (hl : g.Ops.length ≤ 60) (hi : g.IDs.length = g.Ops.length) : ∀ (k i : Nat), g.Ops.length - i = k → i ≤ g.Ops.length →
    ∃ r : Sum Int Unit, iter (dag_Check_L0 g) (i : Int) = some r ∧ iter (braidref09_Check_L0 g) (i : Int) = some r ∧ ((r = .inr () ∧ ∀ j (h : j < g.Ops.length), i ≤ j → goodOp g j g.Ops[j] = true) ∨ (r = .inl 8 ∧ ∃ j, ∃ h : j < g.Ops.length, goodOp g j g.Ops[j] = false)) := by
  intro k
  induction k with
  | zero =>
    intro i hk hle
    refine ⟨.inr (), iter_l ?_, iter_l ?_, .inl ⟨rfl, fun j hj hij => by omega⟩⟩
    · unfold dag_Check_L0; rw [if_neg (by simp; omega)]
    · unfold braidref09_Check_L0; rw [if_neg (by simp; omega)]
  | succ k ih =>
    intro i hk hle
    have hlt : i < g.Ops.length := by omega
    have hii : i < g.IDs.length := by omega
    obtain ⟨w1, w2⟩ := wf_op hw (List.getElem_mem hlt)
    have e1 : dag_Check_L0 g (i : Int) = if goodOp g i g.Ops[i] then some (.inr ((i + 1 : Nat) : Int)) else some (.inl (.inl 8)) := by
      unfold dag_Check_L0 goodOp
      rw [if_pos (by simpa using hlt), idx_nat hlt]
      simp only [bS]
      rw [opID_eq _ w1 w2, w64_nat (by omega)]
      simp only [bS]
      by_cases hc : opCode g.Ops[i] = 0
      · rw [if_pos hc]
        simp only []
        rw [if_neg (by simp), idx_nat hii, ← idAt_get hii]
        simp only [bS]
        by_cases hs : sha (encOp g.Ops[i]) = idAt g i
        · rw [decide_eq_true hs, if_neg (by simp), opVerify_eq _ w1 w2]
          simp only [bS]
          by_cases hb : opBad g.Ops[i] = 0
          · rw [hb]; rfl
          · rw [if_pos (by simpa using hb), decide_eq_false hb]; rfl
        · rw [decide_eq_false hs, Bool.and_false]; rfl
      · have hb : opBad g.Ops[i] ≠ 0 := fun h => hc (opBad_code h)
        rw [if_neg hc, decide_eq_false hb]
        simp only []
        rw [if_pos (by simpa using hc)]; rfl
    have e2 : braidref09_Check_L0 g (i : Int) = if goodOp g i g.Ops[i] then some (.inr ((i + 1 : Nat) : Int)) else some (.inl (.inl 8)) := by
      unfold braidref09_Check_L0 goodOp
      rw [if_pos (by simpa using hlt), idx_nat hlt]
      simp only [bS]
      rw [refVerify_eq _ w1 w2, w64_nat (by omega)]
      simp only [bS]
      by_cases hb : opBad g.Ops[i] = 0
      · rw [hb, if_neg (by simp), idx_nat hii, ← idAt_get hii, refOf_eq _ (opBad_code hb) w1]
        simp only [bS]
        by_cases hs : sha (encOp g.Ops[i]) = idAt g i
        · rw [decide_eq_true hs]; rfl
        · rw [decide_eq_false hs]; rfl
      · rw [if_pos (by simpa using hb), decide_eq_false hb]; rfl
    cases hg : goodOp g i g.Ops[i] with
    | false =>
      rw [hg] at e1 e2
      exact ⟨_, iter_l e1, iter_l e2, .inr ⟨rfl, i, hlt, hg⟩⟩
    | true =>
      rw [hg] at e1 e2
      obtain ⟨r, h1, h2, h3⟩ := ih (i + 1) (by omega) (by omega)
      refine ⟨r, by rw [iter_r e1]; exact h1, by rw [iter_r e2]; exact h2, ?_⟩
      rcases h3 with ⟨h3, h4⟩ | h3
      · refine .inl ⟨h3, fun j hj hij => ?_⟩
        by_cases hji : j = i
        · subst hji; exact hg
        · exact h4 j hj (by omega)
      · exact .inr h3
theorem check_eq (hw : wf_api_Graph g) : ∃ c : Int, dag_Check g = some c ∧ braidref09_Check g = some c ∧ (c = 0 ↔ GoodG g) := by
  unfold dag_Check braidref09_Check
  by_cases hl : 60 < g.Ops.length
  · have d : decide (60 < (g.Ops.length : Int)) = true := by simp; omega
    rw [d]
    exact ⟨4, rfl, rfl, by simp, fun h => by have := h.e.len; omega⟩
  have d : decide (60 < (g.Ops.length : Int)) = false := by simp; omega
  simp only [d, Bool.false_eq_true, if_false]
  by_cases hi : g.IDs.length = g.Ops.length
  · have d2 : ((g.IDs.length : Int) != (g.Ops.length : Int)) = false := by simp; omega
    simp only [d2, Bool.false_eq_true, if_false]
    obtain ⟨r, h1, h2, h3⟩ := check_L0 hw (by omega) hi g.Ops.length 0 rfl (by omega)
    rw [show (0 : Int) = ((0 : Nat) : Int) from rfl, h1, h2]
    rcases h3 with ⟨rfl, h4⟩ | ⟨rfl, j, hj, h4⟩
    · have hok : okOps g := fun i h => by
        have := h4 i h (by omega)
        unfold goodOp at this
        simpa using this
      obtain ⟨c, s1, s2, s3⟩ := shape_eq (g := g) (by omega) hi fun i h => ⟨(opCode_ok (opBad_code (hok i h).1)).1, (opCode_ok (opBad_code (hok i h).1)).2.1⟩
      refine ⟨c, ?_, ?_, s3.trans ⟨fun ⟨a, b, d⟩ => ⟨⟨by omega, hi, a, fun i h => ⟨(opCode_ok (opBad_code (hok i h).1)).1, (opCode_ok (opBad_code (hok i h).1)).2.1⟩⟩, hok, b, d⟩, fun h => ⟨h.e.ri, h.ins, h.wf⟩⟩⟩
      · simp only [or_r]; rw [s1]; simp only [bS]
      · simp only [or_r]; rw [s2]; simp only [bS]
    · refine ⟨8, rfl, rfl, by simp, fun h => ?_⟩
      have := h.ops j hj
      unfold goodOp at h4
      simp [this] at h4
  · have d2 : ((g.IDs.length : Int) != (g.Ops.length : Int)) = true := by simp; omega
    rw [d2]
    exact ⟨8, rfl, rfl, by simp, fun h => absurd h.e.ids hi⟩
end
section
open Go
variable {g : api_Graph}
theorem mget_mput {κ β : Type} [DecidableEq κ] (k : κ) (v : β) (x : κ) : ∀ m : List (κ × β), mget (mput m k v) x = if x = k then some v else mget m x
  | [] => rfl
  | p :: m => by
    have ih := mget_mput k v x m
    unfold mput
    by_cases h : k = p.1
    · rw [if_pos h]
      show (if x = p.1 then some v else mget m x) = if x = k then some v else if x = p.1 then some p.2 else mget m x
      rw [← h]
      by_cases hx : x = k
      · rw [if_pos hx, if_pos hx]
      · rw [if_neg hx, if_neg hx, if_neg hx]
    · rw [if_neg h]
      show (if x = p.1 then some p.2 else mget (mput m k v) x) = if x = k then some v else if x = p.1 then some p.2 else mget m x
      rw [ih]
      by_cases hx : x = p.1
      · rw [if_pos hx, if_pos hx, if_neg (fun e => h (by rw [← hx, e]))]
      · rw [if_neg hx, if_neg hx]
def Places (g : api_Graph) (m : List (ID × Int)) : Prop := ∀ x ∈ g.IDs, (mget m x).getD 0 = (g.IDs.idxOf x : Int)
theorem places_eq (E : GoodE g) : ∃ m, ancestry_places g = some m ∧ Places g m := by
  have hlen := E.len
  have hids := E.ids
  have main := iter_up (F := ancestry_places_L0 g) g.IDs.length
    (fun i s => s.2 = (i : Int) ∧ ∀ x, x ∈ g.IDs → g.IDs.idxOf x < i → (mget s.1 x).getD 0 = (g.IDs.idxOf x : Int))
    (fun m => Places g m)
    (fun i s hi hs => by
      obtain ⟨m, i'⟩ := s
      obtain ⟨h1, h2⟩ := hs
      simp only at h1 h2
      subst h1
      refine ⟨(mput m g.IDs[i] (i : Int), ((i + 1 : Nat) : Int)), ?_, rfl, fun x hx hlt => ?_⟩
      · unfold ancestry_places_L0
        rw [if_pos (by simpa using hi)]
        simp only []
        rw [idx_nat hi, w64_nat (by omega)]
        simp only [bS]
      · simp only []
        rw [mget_mput]
        by_cases he : x = g.IDs[i]
        · rw [if_pos he, he, idxOf_at E.ri hi]; rfl
        · rw [if_neg he]
          refine h2 x hx ?_
          have hne : g.IDs.idxOf x ≠ i := fun e => he (by subst e; simp)
          omega)
    (fun s hs => by
      obtain ⟨m, i'⟩ := s
      obtain ⟨h1, h2⟩ := hs
      simp only at h1 h2
      subst h1
      refine ⟨m, ?_, fun x hx => h2 x hx (List.idxOf_lt_length_of_mem hx)⟩
      unfold ancestry_places_L0
      rw [if_neg (by simp)])
    (([] : List (ID × Int)), 0) 0 (Nat.zero_le _) ⟨rfl, fun x hx h => by omega⟩
  obtain ⟨m, h1, h2⟩ := main
  refine ⟨m, ?_, h2⟩
  unfold ancestry_places
  rw [h1]
  simp only [bS]
inductive Rch (P : Nat → List Nat) (S : List Nat) : Nat → Prop
  | base {i : Nat} : i ∈ S → Rch P S i
  | step {i p : Nat} : Rch P S i → p ∈ P i → Rch P S p
def unm (n : Nat) (m : Nat → Bool) : List Nat := (List.range n).filter fun i => !m i
theorem unm_nodup (n : Nat) (m : Nat → Bool) : (unm n m).Nodup := List.Pairwise.filter _ List.nodup_range
theorem unm_mem {n : Nat} {m : Nat → Bool} {i : Nat} : i ∈ unm n m ↔ i < n ∧ m i = false := by unfold unm; simp
theorem unm_le {n : Nat} {m m' : Nat → Bool} (h : ∀ i, m i = true → m' i = true) : (unm n m').length ≤ (unm n m).length :=
  nodup_le _ _ (unm_nodup n m') fun x hx => by
    rw [unm_mem] at *
    refine ⟨hx.1, ?_⟩
    cases hm : m x with
    | false => rfl
    | true => have := h x hm; rw [hx.2] at this; exact absurd this (by simp)
theorem unm_lt {n : Nat} {m m' : Nat → Bool} (h : ∀ i, m i = true → m' i = true) {y : Nat} (hy : y < n) (h1 : m y = false) (h2 : m' y = true) : (unm n m').length < (unm n m).length := by
  have hin : y ∈ unm n m := unm_mem.2 ⟨hy, h1⟩
  have := nodup_le (unm n m') ((unm n m).erase y) (unm_nodup n m') fun x hx => by
    have hne : x ≠ y := fun e => by subst e; rw [unm_mem] at hx; rw [h2] at hx; exact absurd hx.2 (by simp)
    rw [List.mem_erase_of_ne hne]
    rw [unm_mem] at *
    refine ⟨hx.1, ?_⟩
    cases hm : m x with
    | false => rfl
    | true => have := h x hm; rw [hx.2] at this; exact absurd this (by simp)
  rw [List.length_erase_of_mem hin] at this
  have := List.length_pos_of_mem hin
  omega
structure Grow (P : Nat → List Nat) (S : List Nat) (m m' : Nat → Bool) : Prop where
  sub : ∀ i, m i = true → m' i = true
  src : ∀ i ∈ S, m' i = true
  new : ∀ i, m' i = true → m i = true ∨ Rch P S i
  clo : ∀ i, m' i = true → m i = true ∨ ∀ p ∈ P i, m' p = true
theorem preds_id {i : Nat} {x : ID} (h : allIn g = true) (hx : x ∈ opAt g i) : x ∈ g.IDs ∧ g.IDs.idxOf x ∈ preds g i := ⟨allIn_at h i x hx, List.mem_map.2 ⟨x, hx, rfl⟩⟩
theorem Rch.mono {P : Nat → List Nat} {S T : List Nat} (h : ∀ x ∈ S, x ∈ T) {i : Nat} (hr : Rch P S i) : Rch P T i := by
  induction hr with
  | base h1 => exact .base (h _ h1)
  | step _ h2 ih => exact .step ih h2
theorem Rch.thru {P : Nat → List Nat} {S T : List Nat} (h : ∀ x ∈ S, Rch P T x) {i : Nat} (hr : Rch P S i) : Rch P T i := by
  induction hr with
  | base h1 => exact h _ h1
  | step _ h2 ih => exact .step ih h2
theorem visits (E : GoodE g) {σ : Type} (xs : List ID) (hxs : ∀ x ∈ xs, x ∈ g.IDs) (hl : xs.length ≤ 100) (F : (List Bool × Int) → Option (Sum (List Bool) (List Bool × Int))) (V : ID → List Bool → Option (List Bool)) (m0 : Nat → Bool) (N : Nat)
    (hF : ∀ m (i : Nat) (h : i < xs.length), F (m, (i : Int)) = (V xs[i] m >>= fun r => some (.inr (r, ((i + 1 : Nat) : Int))))) (hF2 : ∀ m, F (m, (xs.length : Int)) = some (.inl m))
    (hV : ∀ m x, x ∈ xs → (∀ i, m0 i = true → m i = true) → ∃ m', V x (tab g.Ops.length m) = some (tab g.Ops.length m') ∧ Grow (preds g) [g.IDs.idxOf x] m m') :
    ∃ m', iter F (tab g.Ops.length m0, 0) = some (tab g.Ops.length m') ∧ Grow (preds g) (xs.map fun x => g.IDs.idxOf x) m0 m' := by
  have main := iter_up (F := F) xs.length
    (fun i s => ∃ m, s = (tab g.Ops.length m, (i : Int)) ∧ Grow (preds g) ((xs.take i).map fun x => g.IDs.idxOf x) m0 m)
    (fun r => ∃ m', r = tab g.Ops.length m' ∧ Grow (preds g) (xs.map fun x => g.IDs.idxOf x) m0 m')
    (fun i s hi hs => by
      obtain ⟨m, rfl, hm⟩ := hs
      obtain ⟨m', e1, e2⟩ := hV m xs[i] (List.getElem_mem hi) hm.sub
      refine ⟨_, by rw [hF _ i hi, e1, bS], m', rfl, ?_⟩
      have et : (xs.take (i + 1)).map (fun x => g.IDs.idxOf x) = (xs.take i).map (fun x => g.IDs.idxOf x) ++ [g.IDs.idxOf xs[i]] := by
        rw [List.take_add_one, List.getElem?_eq_getElem hi, List.map_append]; rfl
      rw [et]
      refine ⟨fun j hj => e2.sub j (hm.sub j hj), fun j hj => ?_, fun j hj => ?_, fun j hj => ?_⟩
      · rcases List.mem_append.1 hj with h | h
        · exact e2.sub j (hm.src j h)
        · exact e2.src j h
      · rcases e2.new j hj with h | h
        · rcases hm.new j h with h | h
          · exact .inl h
          · exact .inr (h.mono fun x hx => List.mem_append.2 (.inl hx))
        · exact .inr (h.mono fun x hx => List.mem_append.2 (.inr hx))
      · rcases e2.clo j hj with h | h
        · rcases hm.clo j h with h | h
          · exact .inl h
          · exact .inr fun p hp => e2.sub p (h p hp)
        · exact .inr h)
    (fun s hs => by
      obtain ⟨m, rfl, hm⟩ := hs
      refine ⟨_, hF2 _, m, rfl, ?_⟩
      rw [List.take_length] at hm; exact hm)
    (tab g.Ops.length m0, ((0 : Nat) : Int)) 0 (Nat.zero_le _) ⟨m0, rfl, by simp, by simp, fun j hj => .inl hj, fun j hj => .inl hj⟩
  obtain ⟨r, h1, m', rfl, h2⟩ := main
  exact ⟨m', h1, h2⟩
theorem visit_eq (E : GoodE g) (h : allIn g = true) {r : List (ID × Int)} (hr : Places g r) : ∀ (N : Nat) (m : Nat → Bool) (x : ID), x ∈ g.IDs → (unm g.Ops.length m).length < N → ∃ m', ancestry_reach_1 N x r (tab g.Ops.length m) g = some (tab g.Ops.length m') ∧ Grow (preds g) [g.IDs.idxOf x] m m'
  | 0, _, _, _, hn => by omega
  | N + 1, m, x, hx, hn => by
    have hlen := E.len
    have hk : g.IDs.idxOf x < g.Ops.length := by rw [← E.ids]; exact List.idxOf_lt_length_of_mem hx
    show ∃ m', ancestry_reach_1_body (ancestry_reach_1 N) x r (tab g.Ops.length m) g = _ ∧ _
    unfold ancestry_reach_1_body
    rw [hr x hx]
    simp only [bS]
    rw [tab_idx hk]
    simp only [bS]
    cases hm : m (g.IDs.idxOf x) with
    | true =>
      rw [if_pos rfl]
      exact ⟨m, rfl, fun i hi => hi, fun i hi => by rw [List.mem_singleton] at hi; subst hi; exact hm, fun i hi => .inl hi, fun i hi => .inl hi⟩
    | false =>
      rw [if_neg (by simp), idx_nat hk]
      simp only [bS, Int.toNat_natCast]
      let m1 := fun i => if i = g.IDs.idxOf x then true else m i
      have hs1 : ∀ i, m i = true → m1 i = true := fun i hi => by
        show (if _ then _ else _) = true
        split
        · rfl
        · exact hi
      have h1x : m1 (g.IDs.idxOf x) = true := if_pos rfl
      have hset : (tab g.Ops.length m).set (g.IDs.idxOf x) true = tab g.Ops.length m1 := tab_set hk h1x fun j _ hj => if_neg hj
      rw [hset]
      have hu := unm_lt hs1 hk hm h1x
      have hop : opAt g (g.IDs.idxOf x) = (g.Ops[g.IDs.idxOf x]).Preds := opAt_get hk
      have h4 := E.four (g.IDs.idxOf x)
      rw [hop] at h4
      obtain ⟨m', e1, e2⟩ := visits (σ := Unit) E (g.Ops[g.IDs.idxOf x]).Preds (fun y hy => (preds_id h (by rw [hop]; exact hy)).1) (by omega)
        (ancestry_reach_1_L0 r g (ancestry_reach_1 N) g.Ops[g.IDs.idxOf x]) (fun y l => ancestry_reach_1 N y r l g) m1 N
        (fun l i hi => by
          unfold ancestry_reach_1_L0
          rw [if_pos (by simpa using hi)]
          simp only []
          rw [idx_nat hi, w64_nat (by omega)]
          simp only [bS])
        (fun l => by
          unfold ancestry_reach_1_L0
          rw [if_neg (by simp)])
        (fun l y hy hsub => visit_eq E h hr N l y (preds_id h (by rw [hop]; exact hy)).1 (by have := unm_le (n := g.Ops.length) hsub; omega))
      refine ⟨m', e1, ?_⟩
      have hpe : ((g.Ops[g.IDs.idxOf x]).Preds.map fun x => g.IDs.idxOf x) = preds g (g.IDs.idxOf x) := by unfold preds; rw [hop]
      rw [hpe] at e2
      have hxx : m' (g.IDs.idxOf x) = true := e2.sub _ h1x
      refine ⟨fun i hi => e2.sub i (hs1 i hi), fun i hi => by rw [List.mem_singleton] at hi; subst hi; exact hxx, fun i hi => ?_, fun i hi => ?_⟩
      · rcases e2.new i hi with h | h
        · by_cases hix : i = g.IDs.idxOf x
          · exact .inr (.base (by rw [hix]; simp))
          · have : m1 i = m i := if_neg hix
            rw [this] at h; exact .inl h
        · exact .inr (h.thru fun y hy => .step (.base (by simp)) hy)
      · rcases e2.clo i hi with h | h
        · by_cases hix : i = g.IDs.idxOf x
          · rw [hix]; exact .inr fun p hp => e2.src p hp
          · have : m1 i = m i := if_neg hix
            rw [this] at h; exact .inl h
        · exact .inr h
theorem reach_eq (E : GoodE g) (h : allIn g = true) (xs : List ID) (hxs : ∀ x ∈ xs, x ∈ g.IDs) (hl : xs.length ≤ 100) : ∃ m, ancestry_reach g xs = some (tab g.Ops.length m) ∧ ∀ i, m i = true ↔ Rch (preds g) (xs.map fun x => g.IDs.idxOf x) i := by
  have hlen := E.len
  obtain ⟨r, e1, e2⟩ := places_eq E
  have hu : (unm g.Ops.length fun _ => false).length ≤ 60 := by
    have := List.length_filter_le (fun i => !(false : Bool)) (List.range g.Ops.length)
    unfold unm; simp at this ⊢; omega
  obtain ⟨m', e3, e4⟩ := visits (σ := Unit) E xs hxs hl (ancestry_reach_L0 g xs r) (fun y l => ancestry_reach_1 1000 y r l g) (fun _ => false) 1000
    (fun l i hi => by
      unfold ancestry_reach_L0
      rw [if_pos (by simpa using hi)]
      simp only []
      rw [idx_nat hi, w64_nat (by omega)]
      simp only [bS])
    (fun l => by
      unfold ancestry_reach_L0
      rw [if_neg (by simp)])
    (fun l y hy hsub => visit_eq E h e2 1000 l y (hxs y hy) (by have := unm_le (n := g.Ops.length) hsub; omega))
  refine ⟨m', ?_, fun i => ⟨fun hi => (e4.new i hi).resolve_left (by simp), fun hi => ?_⟩⟩
  · unfold ancestry_reach
    rw [e1]
    simp only [bS]
    rw [mkn_eq (by have := E.ids; omega) (by have := E.ids; omega), E.ids, tab_const]
    simp only [bS]
    rw [e3]
    simp only [bS]
  · induction hi with
    | base hs => exact e4.src _ hs
    | step _ hp ih => exact ((e4.clo _ ih).resolve_left (by simp)) _ hp
theorem rising_unique : ∀ (l m : List ID), l.Pairwise (fun a b => kd a < kd b) → m.Pairwise (fun a b => kd a < kd b) → (∀ x, x ∈ l ↔ x ∈ m) → l = m
  | [], m, _, _, h => by
    cases m with
    | nil => rfl
    | cons b m => have := (h b).2 (by simp); simp at this
  | a :: l, [], _, _, h => by have := (h a).1 (by simp); simp at this
  | a :: l, b :: m, h1, h2, h => by
    obtain ⟨p1, p2⟩ := List.pairwise_cons.1 h1
    obtain ⟨q1, q2⟩ := List.pairwise_cons.1 h2
    have hab : a = b := by
      have ha := (h a).1 (by simp)
      have hb := (h b).2 (by simp)
      rcases List.mem_cons.1 ha with e | ha'
      · exact e
      · rcases List.mem_cons.1 hb with e | hb'
        · exact e.symm
        · have := q1 a ha'; have := p1 b hb'; omega
    subst hab
    congr 1
    refine rising_unique l m p2 q2 fun x => ⟨fun hx => ?_, fun hx => ?_⟩
    · rcases List.mem_cons.1 ((h x).1 (by simp [hx])) with e | h'
      · subst e; have := p1 x hx; omega
      · exact h'
    · rcases List.mem_cons.1 ((h x).2 (by simp [hx])) with e | h'
      · subst e; have := q1 x hx; omega
      · exact h'
end
section
open Go
variable {g : api_Graph}
theorem sortL2 (a s : List ID) (n : Nat) (x : ID) (hn : n < a.length) (hx : a[n] = x) (hs : s.length ≤ 9223372036854775806) (hi : incr s = true) : ∃ k : Nat, iter (braidref10_Sorted_L2 a (s, (n : Int))) 0 = some (k : Int) ∧ k ≤ s.length ∧ (∀ i (h : i < s.length), i < k → kd s[i] < kd x) ∧ (∀ i (h : i < s.length), k ≤ i → kd x ≤ kd s[i]) := by
  have main := iter_inv (F := braidref10_Sorted_L2 a (s, (n : Int))) (fun st => ∃ i : Nat, st = (i : Int) ∧ i ≤ s.length ∧ ∀ j (h : j < s.length), j < i → kd s[j] < kd x) (fun st => s.length - st.toNat)
    (fun r => ∃ k : Nat, r = (k : Int) ∧ k ≤ s.length ∧ (∀ i (h : i < s.length), i < k → kd s[i] < kd x) ∧ (∀ i (h : i < s.length), k ≤ i → kd x ≤ kd s[i]))
    (fun st hst => by
      obtain ⟨i, rfl, h1, h2⟩ := hst
      by_cases hi' : i < s.length
      · have hF : braidref10_Sorted_L2 a (s, (n : Int)) (i : Int) = if decide (kd s[i] < kd x) then some (.inr ((i + 1 : Nat) : Int)) else some (.inl (i : Int)) := by
          unfold braidref10_Sorted_L2
          rw [if_pos (by simpa using hi')]
          simp only []
          rw [idx_nat hi', idx_nat hn, hx, w64_nat (by omega)]
          simp only [bS]
          rw [rcmp_kd]
          simp only [bS]
          rw [cmp_lt]
        by_cases hc : kd s[i] < kd x
        · rw [decide_eq_true hc, if_pos rfl] at hF
          refine .inr ⟨_, hF, ⟨i + 1, rfl, hi', fun j hj hji => ?_⟩, by simp; omega⟩
          by_cases hji' : j = i
          · subst hji'; exact hc
          · exact h2 j hj (by omega)
        · rw [decide_eq_false hc, if_neg (by simp)] at hF
          refine .inl ⟨_, hF, i, rfl, h1, h2, fun j hj hij => ?_⟩
          by_cases hji' : j = i
          · subst hji'; omega
          · have := incr_lt hi hi' hj (by omega); omega
      · refine .inl ⟨(i : Int), ?_, i, rfl, h1, h2, fun j hj hij => by omega⟩
        unfold braidref10_Sorted_L2
        rw [if_neg (by simpa using hi')])
    0 ⟨0, rfl, Nat.zero_le _, fun j _ h => by omega⟩
  obtain ⟨r, h1, k, rfl, h2, h3, h4⟩ := main
  exact ⟨k, h1, h2, h3, h4⟩
theorem mem_split {α : Type} (s : List α) (k : Nat) (x y : α) : y ∈ s.take k ++ [x] ++ s.drop k ↔ y ∈ s ∨ y = x := by
  have : y ∈ s ↔ y ∈ s.take k ∨ y ∈ s.drop k := by rw [← List.mem_append, List.take_append_drop]
  rw [this]
  simp only [List.mem_append, List.mem_singleton]
  constructor
  · rintro ((h | h) | h)
    · exact .inl (.inl h)
    · exact .inr h
    · exact .inl (.inr h)
  · rintro ((h | h) | h)
    · exact .inl (.inl h)
    · exact .inr h
    · exact .inl (.inr h)
theorem incr_insert {s : List ID} (hi : incr s = true) {k : Nat} {x : ID} (hk : k ≤ s.length) (h1 : ∀ i (h : i < s.length), i < k → kd s[i] < kd x) (h2 : ∀ i (h : i < s.length), k ≤ i → kd x < kd s[i]) : incr (s.take k ++ [x] ++ s.drop k) = true := by
  rw [incr_pw] at *
  have e : s = s.take k ++ s.drop k := (List.take_append_drop k s).symm
  rw [e, List.pairwise_append] at hi
  have a1 : ∀ y ∈ s.take k, kd y < kd x := fun y hy => by
    obtain ⟨i, hi', rfl⟩ := List.getElem_of_mem hy
    rw [List.getElem_take]
    rw [List.length_take] at hi'
    exact h1 i (by omega) (by omega)
  have a2 : ∀ y ∈ s.drop k, kd x < kd y := fun y hy => by
    obtain ⟨i, hi', rfl⟩ := List.getElem_of_mem hy
    rw [List.getElem_drop]
    rw [List.length_drop] at hi'
    exact h2 (k + i) (by omega) (by omega)
  rw [List.pairwise_append, List.pairwise_append]
  refine ⟨⟨hi.1, by simp, fun y hy z hz => ?_⟩, hi.2.1, fun y hy z hz => ?_⟩
  · rw [List.mem_singleton] at hz; subst hz; exact a1 y hy
  · rcases List.mem_append.1 hy with h | h
    · exact hi.2.2 y h z hz
    · rw [List.mem_singleton] at h; subst h; exact a2 z hz
theorem sorted10_eq (a : List ID) (hl : a.length ≤ 1000) : ∃ s, braidref10_Sorted a = some s ∧ incr s = true ∧ ∀ x, x ∈ s ↔ x ∈ a := by
  have main := iter_up (F := braidref10_Sorted_L0 a) a.length
    (fun n st => st.2 = (n : Int) ∧ st.1.length ≤ n ∧ incr st.1 = true ∧ ∀ x, x ∈ st.1 ↔ x ∈ a.take n)
    (fun s => incr s = true ∧ ∀ x, x ∈ s ↔ x ∈ a)
    (fun n st hn hst => by
      obtain ⟨s, n'⟩ := st
      obtain ⟨h1, h2, h3, h4⟩ := hst
      simp only at h1 h2 h3 h4
      subst h1
      obtain ⟨k, k1, k2, k3, k4⟩ := sortL2 a s n a[n] hn rfl (by omega) h3
      have hmem : ∀ y, y ∈ a.take (n + 1) ↔ y ∈ s ∨ y = a[n] := fun y => by
        rw [List.take_add_one, List.getElem?_eq_getElem hn, List.mem_append, h4 y]
        exact ⟨fun h => h.imp id fun h => List.mem_singleton.1 h, fun h => h.imp id fun h => List.mem_singleton.2 h⟩
      have hcond : (if ((k : Int) == (s.length : Int)) = true then some true else idx s (k : Int) >>= fun x17 => idx a (n : Int) >>= fun x19 => some (!decide (x17 = x19))) = some (!decide (a[n] ∈ s)) := by
        by_cases hk : k = s.length
        · rw [if_pos (by rw [hk]; simp)]
          have : a[n] ∉ s := fun hm => by
            obtain ⟨i, hi, e⟩ := List.getElem_of_mem hm
            have := k3 i hi (by omega)
            rw [e] at this; omega
          rw [decide_eq_false this]; rfl
        · have hk' : k < s.length := by omega
          rw [if_neg (by simp; omega), idx_nat hk', idx_nat hn]
          simp only [bS]
          have : decide (s[k] = a[n]) = decide (a[n] ∈ s) := by
            rw [decide_eq_decide]
            refine ⟨fun e => e ▸ List.getElem_mem hk', fun hm => ?_⟩
            obtain ⟨i, hi, e⟩ := List.getElem_of_mem hm
            by_cases hik : i < k
            · have := k3 i hi hik; rw [e] at this; omega
            · by_cases hik' : i = k
              · subst hik'; exact e
              · have := incr_lt h3 hk' hi (by omega)
                have := k4 k hk' (Nat.le_refl _)
                rw [e] at *; omega
          rw [this]
      by_cases hm : a[n] ∈ s
      · rw [decide_eq_true hm] at hcond
        refine ⟨(s, ((n + 1 : Nat) : Int)), ?_, rfl, ?_, h3, fun x => ?_⟩
        · unfold braidref10_Sorted_L0
          rw [if_pos (by simpa using hn), k1]
          simp only [bS]
          rw [hcond, w64_nat (by omega)]
          rfl
        · simp only []; omega
        · rw [hmem]
          exact ⟨.inl, fun h => h.elim id fun e => e ▸ hm⟩
      · rw [decide_eq_false hm] at hcond
        have hlen : (s.take k ++ [a[n]] ++ s.drop k).length = s.length + 1 := by
          simp only [List.length_append, List.length_take, List.length_drop, List.length_cons, List.length_nil]; omega
        refine ⟨(s.take k ++ [a[n]] ++ s.drop k, ((n + 1 : Nat) : Int)), ?_, rfl, ?_, ?_, fun x => ?_⟩
        · unfold braidref10_Sorted_L0
          rw [if_pos (by simpa using hn), k1]
          simp only [bS]
          rw [hcond]
          simp only [bS]
          rw [if_pos (by simp), show (0 : Int) = ((0 : Nat) : Int) from rfl, cut_eq (by omega) (by omega), idx_nat hn, cut_eq (by omega) (by omega)]
          simp only [bS, List.drop_zero, Nat.sub_zero]
          have e2 : (s.drop k).take (s.length - k) = s.drop k := List.take_of_length_le (by simp)
          rw [e2, app_eq (by simp; omega)]
          simp only [bS, List.nil_append]
          rw [app_eq (by simp; omega)]
          simp only [bS]
          rw [app_eq (by simp; omega), w64_nat (by omega)]
          simp only [bS]
        · simp only []; rw [hlen]; omega
        · refine incr_insert h3 k2 k3 fun i hi hki => ?_
          have := k4 i hi hki
          rcases Nat.lt_or_eq_of_le this with h | h
          · exact h
          · exact absurd (kd_inj h ▸ List.getElem_mem hi) hm
        · rw [hmem]; exact mem_split _ _ _ _)
    (fun st hst => by
      obtain ⟨s, n'⟩ := st
      obtain ⟨h1, h2, h3, h4⟩ := hst
      simp only at h1 h2 h3 h4
      subst h1
      refine ⟨s, ?_, h3, fun x => by rw [h4, List.take_length]⟩
      unfold braidref10_Sorted_L0
      rw [if_neg (by simp)])
    ([], 0) 0 (Nat.zero_le _) ⟨rfl, Nat.zero_le _, rfl, by simp⟩
  obtain ⟨s, h1, h2, h3⟩ := main
  refine ⟨s, ?_, h2, h3⟩
  unfold braidref10_Sorted
  rw [h1]
  simp only [bS]
theorem preds10_eq (E : GoodE g) {x : ID} (hx : x ∈ g.IDs) : braidref10_preds g x = some (opAt g (g.IDs.idxOf x)) := by
  have hlen := E.len
  have hids := E.ids
  have hk : g.IDs.idxOf x < g.Ops.length := by rw [← E.ids]; exact List.idxOf_lt_length_of_mem hx
  obtain ⟨k, h1, h2⟩ := at_eq g.IDs x (by omega)
  unfold braidref10_preds
  rw [h1]
  simp only [bS]
  rcases h2 with ⟨rfl, h2⟩ | ⟨i, rfl, hi, rfl⟩
  · exact absurd hx h2
  · rw [idxOf_at E.ri hi, idx_nat (by omega), opAt_get (by omega)]
    simp only [bS]
theorem before_eq (E : GoodE g) (h : allIn g = true) {x : ID} (hx : x ∈ g.IDs) : ∃ s, braidref10_Before g x = some s ∧ incr s = true ∧ ∀ y, y ∈ s ↔ y ∈ g.IDs ∧ Rch (preds g) (preds g (g.IDs.idxOf x)) (g.IDs.idxOf y) := by
  have hlen := E.len
  have hids := E.ids
  have h4 := E.four (g.IDs.idxOf x)
  have main := iter_inv (F := braidref10_Before_L0 g)
    (fun st => st.1.Nodup ∧ (∀ y ∈ st.1, y ∈ g.IDs ∧ Rch (preds g) (preds g (g.IDs.idxOf x)) (g.IDs.idxOf y)) ∧ (∀ y ∈ st.2, y ∈ g.IDs ∧ Rch (preds g) (preds g (g.IDs.idxOf x)) (g.IDs.idxOf y)) ∧
      (∀ y ∈ opAt g (g.IDs.idxOf x), y ∈ st.1 ∨ y ∈ st.2) ∧ (∀ y ∈ st.1, ∀ z ∈ opAt g (g.IDs.idxOf y), z ∈ st.1 ∨ z ∈ st.2) ∧ 4 * st.1.length + 4 ≥ st.2.length)
    (fun st => 5 * (g.IDs.length - st.1.length) + st.2.length)
    (fun s => s.Nodup ∧ s.length ≤ 60 ∧ ∀ y, y ∈ s ↔ y ∈ g.IDs ∧ Rch (preds g) (preds g (g.IDs.idxOf x)) (g.IDs.idxOf y))
    (fun st hst => by
      obtain ⟨seen, todo⟩ := st
      obtain ⟨a1, a2, a3, a4, a5, a6⟩ := hst
      simp only at a1 a2 a3 a4 a5 a6
      have hsl : seen.length ≤ g.IDs.length := nodup_le _ _ a1 fun y hy => (a2 y hy).1
      cases todo with
      | nil =>
        left
        refine ⟨seen, ?_, a1, by omega, fun y => ⟨fun hy => a2 y hy, fun hy => ?_⟩⟩
        · unfold braidref10_Before_L0
          rw [if_neg (by simp)]
        · obtain ⟨hy1, hy2⟩ := hy
          have : ∀ i, Rch (preds g) (preds g (g.IDs.idxOf x)) i → idAt g i ∈ seen := by
            intro i hi
            induction hi with
            | base hb =>
              unfold preds at hb
              rw [List.mem_map] at hb
              obtain ⟨z, hz, rfl⟩ := hb
              rw [idAt_idx (allIn_at h _ z hz)]
              exact (a4 z hz).resolve_right (by simp)
            | @step i _ _ hp ih =>
              unfold preds at hp
              rw [List.mem_map] at hp
              obtain ⟨z, hz, rfl⟩ := hp
              rw [idAt_idx (allIn_at h _ z hz)]
              have hin := (a2 _ ih).1
              have := a5 _ ih z (by
                by_cases hig : i < g.Ops.length
                · rw [idx_idAt E hig]; exact hz
                · unfold opAt at hz; rw [List.getElem?_eq_none (by omega)] at hz; simp at hz)
              exact this.resolve_right (by simp)
          have := this _ hy2
          rwa [idAt_idx hy1] at this
      | cons z todo =>
        right
        have hz := a3 z (by simp)
        obtain ⟨k, k1, k2⟩ := at_neg seen z (by omega)
        have hp4 := E.four (g.IDs.idxOf z)
        simp only [List.length_cons] at a6
        by_cases hm : z ∈ seen
        · rw [decide_eq_true hm] at k2
          refine ⟨(seen, todo), ?_, ⟨a1, a2, fun y hy => a3 y (by simp [hy]), fun y hy => ?_, fun y hy w hw => ?_, by simp only []; omega⟩, by simp only [List.length_cons]; omega⟩
          · unfold braidref10_Before_L0
            rw [if_pos (by simp)]
            simp only []
            rw [show (0 : Int) = ((0 : Nat) : Int) from rfl, idx_nat (by simp), show (1 : Int) = ((1 : Nat) : Int) from rfl, cut_eq (by simp) (by omega)]
            simp only [bS, List.getElem_cons_zero]
            rw [k1]
            simp only [bS]
            rw [show ((0 : Nat) : Int) = 0 from rfl, k2, if_neg (by simp)]
            simp
          · rcases a4 y hy with h | h
            · exact .inl h
            · rcases List.mem_cons.1 h with rfl | h
              · exact .inl hm
              · exact .inr h
          · rcases a5 y hy w hw with h | h
            · exact .inl h
            · rcases List.mem_cons.1 h with rfl | h
              · exact .inl hm
              · exact .inr h
        · rw [decide_eq_false hm] at k2
          have hn1 : (seen ++ [z]).Nodup := by
            rw [List.nodup_append]
            exact ⟨a1, by simp, fun a ha b hb e => by rw [List.mem_singleton] at hb; subst hb; exact hm (e ▸ ha)⟩
          have hsl2 : (seen ++ [z]).length ≤ g.IDs.length := nodup_le _ _ hn1 fun y hy => by
            rcases List.mem_append.1 hy with h | h
            · exact (a2 y h).1
            · rw [List.mem_singleton] at h; subst h; exact hz.1
          rw [List.length_append, List.length_singleton] at hsl2
          refine ⟨(seen ++ [z], todo ++ opAt g (g.IDs.idxOf z)), ?_, ⟨hn1, fun y hy => ?_, fun y hy => ?_, fun y hy => ?_, fun y hy w hw => ?_, by simp only [List.length_append, List.length_singleton]; omega⟩, by simp only [List.length_append, List.length_singleton, List.length_cons]; omega⟩
          · unfold braidref10_Before_L0
            rw [if_pos (by simp)]
            simp only []
            rw [show (0 : Int) = ((0 : Nat) : Int) from rfl, idx_nat (by simp), show (1 : Int) = ((1 : Nat) : Int) from rfl, cut_eq (by simp) (by omega)]
            simp only [bS, List.getElem_cons_zero]
            rw [k1]
            simp only [bS]
            rw [show ((0 : Nat) : Int) = 0 from rfl, k2, if_pos (by simp), app_eq (by simp; omega), preds10_eq E hz.1]
            simp only [bS]
            have et : ((z :: todo).drop 1).take ((z :: todo).length - 1) = todo := by simp
            rw [et, app_eq (by omega)]
            simp only [bS]
          · rcases List.mem_append.1 hy with h | h
            · exact a2 y h
            · rw [List.mem_singleton] at h; subst h; exact hz
          · rcases List.mem_append.1 hy with h' | h'
            · exact a3 y (by simp [h'])
            · exact ⟨allIn_at h _ y h', .step hz.2 (List.mem_map.2 ⟨y, h', rfl⟩)⟩
          · rcases a4 y hy with h | h
            · exact .inl (List.mem_append.2 (.inl h))
            · rcases List.mem_cons.1 h with rfl | h
              · exact .inl (by simp)
              · exact .inr (List.mem_append.2 (.inl h))
          · rcases List.mem_append.1 hy with h | h
            · rcases a5 y h w hw with h | h
              · exact .inl (List.mem_append.2 (.inl h))
              · rcases List.mem_cons.1 h with rfl | h
                · exact .inl (by simp)
                · exact .inr (List.mem_append.2 (.inl h))
            · rw [List.mem_singleton] at h; subst h
              exact .inr (List.mem_append.2 (.inr hw)))
    ([], opAt g (g.IDs.idxOf x)) ⟨by simp, by simp, fun y hy => ⟨allIn_at h _ y hy, .base (List.mem_map.2 ⟨y, hy, rfl⟩)⟩, fun y hy => .inr hy, by simp, by simp only [List.length_nil]; omega⟩
  obtain ⟨r, h1, h2, h3, h5⟩ := main
  obtain ⟨s, s1, s2, s3⟩ := sorted10_eq r (by omega)
  refine ⟨s, ?_, s2, fun y => (s3 y).trans (h5 y)⟩
  unfold braidref10_Before
  rw [preds10_eq E hx]
  simp only [bS]
  rw [app_eq (by simp; omega)]
  simp only [bS, List.nil_append]
  rw [h1]
  simp only [bS]
  rw [s1]
  simp only [bS]
end
section
open Go
variable {g : api_Graph}
theorem len_ids {s : List ID} (hs : incr s = true) (h : ∀ y ∈ s, y ∈ g.IDs) : s.length ≤ g.IDs.length := nodup_le _ _ (incr_nodup hs) h
end
section
open Go
variable {P : Nat → List Nat} {n : Nat}
def canTake (P : Nat → List Nat) (Q : List Nat) (i : Nat) : Bool := !decide (i ∈ Q) && decide (∀ p ∈ P i, p ∈ Q)
theorem canTake_iff {Q : List Nat} {i : Nat} : canTake P Q i = true ↔ i ∉ Q ∧ ∀ p ∈ P i, p ∈ Q := by
  unfold canTake; rw [Bool.and_eq_true, Bool.not_eq_true', decide_eq_false_iff_not, decide_eq_true_iff]
structure IsNext (P : Nat → List Nat) (n : Nat) (Q : List Nat) (i : Nat) : Prop where
  lt : i < n
  can : canTake P Q i = true
  least : ∀ j, j < i → canTake P Q j = false
theorem IsNext.unique {Q : List Nat} {i j : Nat} (h : IsNext P n Q i) (k : IsNext P n Q j) : i = j := by
  rcases Nat.lt_trichotomy i j with c | c | c
  · have := k.least i c; rw [h.can] at this; exact absurd this (by simp)
  · exact c
  · have := h.least j c; rw [k.can] at this; exact absurd this (by simp)
inductive Greedy (P : Nat → List Nat) (n : Nat) : List Nat → Prop
  | nil : Greedy P n []
  | snoc {Q : List Nat} {i : Nat} : Greedy P n Q → IsNext P n Q i → Greedy P n (Q ++ [i])
theorem Greedy.got {Q : List Nat} (h : Greedy P n Q) : Got P n Q ∧ Topo P Q := by
  induction h with
  | nil => exact ⟨⟨by simp, by simp, by simp⟩, fun k hk => by simp at hk⟩
  | @snoc Q i _ hi ih =>
    obtain ⟨h1, h2⟩ := canTake_iff.1 hi.can
    refine ⟨⟨?_, fun x hx => ?_, fun x hx => ?_⟩, ih.2.snoc h2⟩
    · rw [List.nodup_append]
      exact ⟨ih.1.nodup, by simp, fun a ha b hb e => by rw [List.mem_singleton] at hb; subst hb; exact h1 (e ▸ ha)⟩
    · rcases List.mem_append.1 hx with h | h
      · exact ih.1.lt x h
      · rw [List.mem_singleton] at h; subst h; exact hi.lt
    · rcases List.mem_append.1 hx with h | h
      · exact ih.1.wf x h
      · rw [List.mem_singleton] at h; subst h; exact .mk _ fun p hp => ih.1.wf p (h2 p hp)
theorem Greedy.unique {Q : List Nat} (h : Greedy P n Q) : ∀ R, Greedy P n R → Q.length = R.length → Q = R := by
  induction h with
  | nil =>
    intro R hR e
    cases R with
    | nil => rfl
    | cons a R => simp at e
  | @snoc Q i hQ hi ih =>
    intro R hR e
    cases hR with
    | nil => simp at e
    | @snoc R j hR hj =>
      have : Q = R := ih R hR (by simpa using e)
      subst this
      rw [hi.unique hj]
theorem least_of (f : Nat → Bool) : ∀ (m i : Nat), i ≤ m → f i = true → ∃ j, j ≤ m ∧ f j = true ∧ ∀ k, k < j → f k = false
  | 0, i, h, hf => ⟨0, Nat.le_refl _, by rw [show i = 0 by omega] at hf; exact hf, fun k hk => by omega⟩
  | m + 1, i, h, hf => by
    by_cases hm : ∃ i, i ≤ m ∧ f i = true
    · obtain ⟨i, h1, h2⟩ := hm
      obtain ⟨j, j1, j2, j3⟩ := least_of f m i h1 h2
      exact ⟨j, by omega, j2, j3⟩
    · refine ⟨i, h, hf, fun k hk => ?_⟩
      cases hfk : f k with
      | false => rfl
      | true => exact absurd ⟨k, by omega, hfk⟩ hm
theorem next_ex (hall : ∀ i, i < n → Wf P i) (hlt : ∀ i, ∀ p ∈ P i, p < n) {Q : List Nat} (hQ : Got P n Q) (hl : Q.length < n) : ∃ i, IsNext P n Q i := by
  have h1 : ¬ ∀ i, i < n → i ∈ Q := fun h => (full_iff hQ.nodup hQ.lt).2 h hl
  have key : ∀ i, Wf P i → i < n → i ∉ Q → ∃ j, j < n ∧ canTake P Q j = true := by
    intro i hi
    induction hi with
    | mk i hp ih =>
      intro hi hn
      by_cases h : ∀ p ∈ P i, p ∈ Q
      · exact ⟨i, hi, canTake_iff.2 ⟨hn, h⟩⟩
      · refine Classical.byContradiction fun hc => h fun p hp => ?_
        refine Decidable.byContradiction fun hpq => hc (ih p hp (hlt i p hp) hpq)
  have h2 : ∃ i, i < n ∧ i ∉ Q := Classical.byContradiction fun hc => h1 fun i hi => Decidable.byContradiction fun h => hc ⟨i, hi, h⟩
  obtain ⟨i, hi, hiQ⟩ := h2
  obtain ⟨j, hj, hc⟩ := key i (hall i hi) hi hiQ
  obtain ⟨k, k1, k2, k3⟩ := least_of (canTake P Q) j j (Nat.le_refl _) hc
  exact ⟨k, by omega, k2, k3⟩
def Wlk (P : Nat → List Nat) : Nat → Nat → Nat → Prop
  | 0, i, j => i = j
  | t + 1, i, j => ∃ p ∈ P i, Wlk P t p j
theorem Wlk.snoc : ∀ {t i j p : Nat}, Wlk P t i j → p ∈ P j → Wlk P (t + 1) i p
  | 0, i, j, p, h, hp => by
    have h : i = j := h
    subst h; exact ⟨p, hp, rfl⟩
  | t + 1, i, j, p, h, hp => by
    obtain ⟨q, hq, h⟩ := h
    exact ⟨q, hq, Wlk.snoc h hp⟩
theorem Wlk.pre : ∀ {t i j : Nat} (s : Nat), Wlk P t i j → s ≤ t → ∃ k, Wlk P s i k
  | t, i, j, 0, h, hs => ⟨i, rfl⟩
  | 0, i, j, s + 1, h, hs => by omega
  | t + 1, i, j, s + 1, h, hs => by
    obtain ⟨q, hq, h⟩ := h
    obtain ⟨k, hk⟩ := Wlk.pre s h (by omega)
    exact ⟨k, q, hq, hk⟩
def IsDep (P : Nat → List Nat) (i d : Nat) : Prop := (∃ j, Wlk P d i j) ∧ ∀ t j, Wlk P t i j → t ≤ d
theorem IsDep.unique {i d e : Nat} (h : IsDep P i d) (k : IsDep P i e) : d = e := by
  obtain ⟨⟨j, h1⟩, h2⟩ := h
  obtain ⟨⟨l, k1⟩, k2⟩ := k
  exact Nat.le_antisymm (k2 _ _ h1) (h2 _ _ k1)
def IsMax (l : List Nat) (e : Nat → Nat) (d : Nat) : Prop := (∀ p ∈ l, e p + 1 ≤ d) ∧ (d = 0 ∨ ∃ p ∈ l, d = e p + 1)
theorem IsMax.nil (e : Nat → Nat) : IsMax [] e 0 := ⟨by simp, .inl rfl⟩
theorem IsMax.snoc {l : List Nat} {e : Nat → Nat} {d p : Nat} (h : IsMax l e d) : IsMax (l ++ [p]) e (max d (e p + 1)) := by
  obtain ⟨h1, h2⟩ := h
  refine ⟨fun q hq => ?_, ?_⟩
  · rcases List.mem_append.1 hq with h | h
    · have := h1 q h; omega
    · rw [List.mem_singleton] at h; subst h; omega
  · by_cases hc : d ≤ e p + 1
    · exact .inr ⟨p, List.mem_append.2 (.inr (by simp)), by omega⟩
    · rcases h2 with h2 | ⟨q, hq, h2⟩
      · omega
      · exact .inr ⟨q, List.mem_append.2 (.inl hq), by omega⟩
theorem IsMax.congr {l : List Nat} {e e' : Nat → Nat} {d : Nat} (h : IsMax l e d) (he : ∀ p ∈ l, e' p = e p) : IsMax l e' d :=
  ⟨fun p hp => by rw [he p hp]; exact h.1 p hp, h.2.imp id fun ⟨p, hp, h⟩ => ⟨p, hp, by rw [he p hp]; exact h⟩⟩
theorem IsDep.step {i d : Nat} {e : Nat → Nat} (h : ∀ p ∈ P i, IsDep P p (e p)) (hm : IsMax (P i) e d) : IsDep P i d := by
  obtain ⟨h1, h2⟩ := hm
  constructor
  · rcases h2 with rfl | ⟨p, hp, rfl⟩
    · exact ⟨i, rfl⟩
    · obtain ⟨⟨j, hj⟩, _⟩ := h p hp
      exact ⟨j, p, hp, hj⟩
  · intro t j hw
    cases t with
    | zero => exact Nat.zero_le _
    | succ t =>
      obtain ⟨p, hp, hw⟩ := hw
      have := (h p hp).2 t j hw
      have := h1 p hp
      omega
end
section
open Go
variable {g : api_Graph}
theorem index_from {r : List (ID × Int)} (hr : Places g r) (E : GoodE g) (f : Nat → Bool) (ps : List ID) (hin : ∀ x ∈ ps, x ∈ g.IDs) (hl : ps.length ≤ 1000) : ∀ (rest pre : List ID), ps = pre ++ rest →
    ∃ b : Sum Int Unit, iter (slices_IndexFunc_api_ID_api_ID_ancestry_Order_1_1_L0 ps (tab g.Ops.length f) r) (pre.length : Int) = some b ∧ ((b = .inr () ∧ (rest.all fun x => f (g.IDs.idxOf x)) = true) ∨ ∃ i : Nat, b = .inl (i : Int) ∧ (rest.all fun x => f (g.IDs.idxOf x)) = false)
  | [], pre, e => by
    refine ⟨.inr (), iter_l ?_, .inl ⟨rfl, rfl⟩⟩
    unfold slices_IndexFunc_api_ID_api_ID_ancestry_Order_1_1_L0
    rw [if_neg (by rw [e]; simp)]
  | c :: rest, pre, e => by
    have hlen : pre.length < ps.length := by rw [e]; simp
    have hget : ps[pre.length]'hlen = c := by simp [e]
    have hc : c ∈ g.IDs := hin c (by rw [e]; simp)
    have hk : g.IDs.idxOf c < g.Ops.length := by rw [← E.ids]; exact List.idxOf_lt_length_of_mem hc
    have hF : slices_IndexFunc_api_ID_api_ID_ancestry_Order_1_1_L0 ps (tab g.Ops.length f) r (pre.length : Int) = if f (g.IDs.idxOf c) then some (.inr ((pre.length + 1 : Nat) : Int)) else some (.inl (.inl (pre.length : Int))) := by
      unfold slices_IndexFunc_api_ID_api_ID_ancestry_Order_1_1_L0 ancestry_Order_1_1
      rw [if_pos (by simpa using hlen), idx_nat hlen, hget, w64_nat (by omega)]
      simp only [bS]
      rw [hr c hc, tab_idx hk]
      simp only [bS]
      cases f (g.IDs.idxOf c) <;> rfl
    rw [List.all_cons]
    cases hf : f (g.IDs.idxOf c) with
    | false => rw [hf] at hF; exact ⟨_, iter_l hF, .inr ⟨_, rfl, rfl⟩⟩
    | true =>
      rw [hf] at hF
      rw [iter_r hF]
      obtain ⟨b, h1, h2⟩ := index_from hr E f ps hin hl rest (pre ++ [c]) (by simp [e])
      simp only [List.length_append, List.length_cons, List.length_nil, Nat.zero_add] at h1
      exact ⟨b, h1, by rw [Bool.true_and]; exact h2⟩
theorem contains_eq {r : List (ID × Int)} (hr : Places g r) (E : GoodE g) (f : Nat → Bool) (ps : List ID) (hin : ∀ x ∈ ps, x ∈ g.IDs) (hl : ps.length ≤ 1000) : slices_ContainsFunc_api_ID_api_ID_ancestry_Order_1_1 ps (tab g.Ops.length f) r = some (!(ps.all fun x => f (g.IDs.idxOf x))) := by
  obtain ⟨b, h1, h2⟩ := index_from hr E f ps hin hl ps [] rfl
  unfold slices_ContainsFunc_api_ID_api_ID_ancestry_Order_1_1 slices_IndexFunc_api_ID_api_ID_ancestry_Order_1_1
  rw [show (0 : Int) = (([] : List ID).length : Int) from rfl, h1]
  rcases h2 with ⟨rfl, h2⟩ | ⟨i, rfl, h2⟩
  · rw [h2]; rfl
  · rw [h2]
    simp only [or_l, bS]
    rw [decide_eq_true (by simp)]; rfl
theorem order1_eq {r : List (ID × Int)} (hr : Places g r) (E : GoodE g) (h : allIn g = true) (Q : List Nat) {i : Nat} (hi : i < g.Ops.length) : ancestry_Order_1 (i : Int) (tab g.Ops.length fun j => decide (j ∈ Q)) g r = some (canTake (preds g) Q i) := by
  have h4 := (E.op i hi).1
  unfold ancestry_Order_1
  rw [tab_idx hi, idx_nat hi]
  simp only [bS]
  rw [contains_eq hr E _ _ (by rw [← opAt_get hi]; exact allIn_at h i) (by omega)]
  simp only [bS, Bool.not_not]
  have : ((g.Ops[i]).Preds.all fun x => decide (g.IDs.idxOf x ∈ Q)) = decide (∀ p ∈ preds g i, p ∈ Q) := by
    rw [Bool.eq_iff_iff, List.all_eq_true, decide_eq_true_iff]
    unfold preds
    rw [opAt_get hi]
    constructor
    · intro hx p hp
      rw [List.mem_map] at hp
      obtain ⟨x, hx', rfl⟩ := hp
      simpa using hx x hx'
    · intro hp x hx
      rw [decide_eq_true_iff]
      exact hp _ (List.mem_map.2 ⟨x, hx, rfl⟩)
  rw [this]
  unfold canTake
  cases decide (i ∈ Q) <;> rfl
theorem orderL2 {r : List (ID × Int)} (hr : Places g r) (E : GoodE g) (h : allIn g = true) (Q : List Nat) (s : (List Bool) × (List ID) × Int) (hs : s.1 = tab g.Ops.length fun j => decide (j ∈ Q)) {i : Nat} (hi : IsNext (preds g) g.Ops.length Q i) : iter (ancestry_Order_L2 g r s) 0 = some (i : Int) := by
  have hlen := E.len
  have hlt := hi.lt
  have := iter_run (F := ancestry_Order_L2 g r s) (b := (i : Int)) i (fun k => (k : Int)) (fun k hk => ?_) ?_
  · exact this
  · unfold ancestry_Order_L2
    rw [hs, order1_eq hr E h Q (by omega), hi.least k hk, w64_nat (by omega)]
    rfl
  · unfold ancestry_Order_L2
    rw [hs, order1_eq hr E h Q hi.lt, hi.can]
    rfl
theorem order_ok (G : GoodG g) (h : dag_Check g = some 0) : ∃ Q, ancestry_Order g = some (Q.map (idAt g), 0) ∧ Greedy (preds g) g.Ops.length Q ∧ Q.length = g.Ops.length := by
  have E := G.e
  have hlen := E.len
  have hids := E.ids
  have hP := goodP E G.ins
  obtain ⟨r, r1, hr⟩ := places_eq E
  have main := iter_up (F := ancestry_Order_L0 g r) g.Ops.length
    (fun k s => ∃ Q, s = (tab g.Ops.length (fun j => decide (j ∈ Q)), Q.map (idAt g), (k : Int)) ∧ Greedy (preds g) g.Ops.length Q ∧ Q.length = k)
    (fun b => ∃ Q, b = Q.map (idAt g) ∧ Greedy (preds g) g.Ops.length Q ∧ Q.length = g.Ops.length)
    (fun k s hk hs => by
      obtain ⟨Q, rfl, h1, h2⟩ := hs
      obtain ⟨i, hi⟩ := next_ex G.wf hP.lt h1.got.1 (by omega)
      have hil := hi.lt
      have hii : i < g.IDs.length := by omega
      refine ⟨(tab g.Ops.length (fun j => decide (j ∈ Q ++ [i])), (Q ++ [i]).map (idAt g), ((k + 1 : Nat) : Int)), ?_, Q ++ [i], rfl, .snoc h1 hi, by simp [h2]⟩
      unfold ancestry_Order_L0
      rw [if_pos (by simp; omega), orderL2 hr E G.ins Q _ rfl hi]
      simp only [bS]
      rw [tab_idx hil, idx_nat hii]
      simp only [bS, Int.toNat_natCast]
      rw [app_eq (by rw [List.length_map]; simp only [List.length_cons, List.length_nil]; omega), w64_nat (by omega), tab_set (g := fun j => decide (j ∈ Q ++ [i])) hil (by simp) (fun j _ hj => by simp [hj]), List.map_append, ← idAt_get hii]
      simp only [bS]
      rfl)
    (fun s hs => by
      obtain ⟨Q, rfl, h1, h2⟩ := hs
      refine ⟨_, ?_, Q, rfl, h1, h2⟩
      unfold ancestry_Order_L0
      rw [if_neg (by simp; omega)])
    (List.replicate g.Ops.length false, [], ((0 : Nat) : Int)) 0 (Nat.zero_le _) ⟨[], by rw [tab_const]; simp, .nil, rfl⟩
  obtain ⟨b, b1, Q, rfl, b2, b3⟩ := main
  refine ⟨Q, ?_, b2, b3⟩
  unfold ancestry_Order
  rw [h, r1]
  simp only [bS]
  rw [if_neg (by simp), mkn_eq (by omega) (by omega), hids]
  simp only [bS]
  rw [show (0 : Int) = ((0 : Nat) : Int) from rfl, b1]
  rfl
end
section
open Go
variable {g : api_Graph}
theorem greatOp {o : api_Op} (h : braidref06_Great o = some false) : o.Preds.length ≤ 20 ∧ o.Act.Key.length ≤ 100 ∧ o.Act.Value.Text.length ≤ 100 := by
  unfold braidref06_Great at h
  by_cases h1 : 20 < o.Preds.length
  · rw [if_pos (by simp; omega)] at h; exact absurd h (by simp)
  · rw [if_neg (by simp; omega)] at h
    by_cases h2 : 100 < o.Act.Key.length
    · rw [if_pos (by simp; omega)] at h; exact absurd h (by simp)
    · rw [if_neg (by simp; omega)] at h
      simp only [bS] at h
      have h := Option.some.inj h
      rw [decide_eq_false_iff_not] at h
      exact ⟨by omega, by omega, by omega⟩
theorem greatOp_some (o : api_Op) : ∃ b, braidref06_Great o = some b := by
  unfold braidref06_Great
  split
  · exact ⟨_, rfl⟩
  · split
    · exact ⟨_, rfl⟩
    · exact ⟨_, rfl⟩
structure Small (g : api_Graph) : Prop where
  ops : g.Ops.length ≤ 70
  ids : g.IDs.length ≤ 70
  op : ∀ i (h : i < g.Ops.length), g.Ops[i].Preds.length ≤ 20 ∧ g.Ops[i].Act.Key.length ≤ 100 ∧ g.Ops[i].Act.Value.Text.length ≤ 100
theorem great_from (g : api_Graph) : ∀ (k i : Nat), 71 - i = k → i ≤ 71 → ∃ r : Sum Bool Unit, iter (braidref09_Great_L0 g) (i : Int) = some r ∧ (r = .inl true ∨ (r = .inr () ∧ ∀ j (h : j < g.Ops.length), i ≤ j → j ≤ 70 → g.Ops[j].Preds.length ≤ 20 ∧ g.Ops[j].Act.Key.length ≤ 100 ∧ g.Ops[j].Act.Value.Text.length ≤ 100))
  | 0, i, h1, h2 => by
    refine ⟨.inr (), iter_l ?_, .inr ⟨rfl, fun j hj h3 h4 => by omega⟩⟩
    unfold braidref09_Great_L0
    split
    · rw [if_neg (by simp; omega)]
    · rfl
  | k + 1, i, h1, h2 => by
    by_cases hi : i < g.Ops.length
    · obtain ⟨b, hb⟩ := greatOp_some g.Ops[i]
      have hF : braidref09_Great_L0 g (i : Int) = if b then some (.inl (.inl true)) else some (.inr ((i + 1 : Nat) : Int)) := by
        unfold braidref09_Great_L0
        rw [if_pos (by simpa using hi), if_pos (by simp; omega), idx_nat hi]
        simp only [bS]
        rw [hb, w64_nat (by omega)]
        simp only [bS]
      cases b with
      | true => exact ⟨_, iter_l hF, .inl rfl⟩
      | false =>
        rw [if_neg (by simp)] at hF
        obtain ⟨r, e1, e2⟩ := great_from g k (i + 1) (by omega) (by omega)
        refine ⟨r, by rw [iter_r hF]; exact e1, e2.imp id fun ⟨e2, e3⟩ => ⟨e2, fun j hj h3 h4 => ?_⟩⟩
        by_cases hji : j = i
        · subst hji; exact greatOp hb
        · exact e3 j hj (by omega) h4
    · refine ⟨.inr (), iter_l ?_, .inr ⟨rfl, fun j hj h3 h4 => by omega⟩⟩
      unfold braidref09_Great_L0
      rw [if_neg (by simpa using hi)]
theorem great_eq (g : api_Graph) : ∃ b, braidref09_Great g = some b ∧ (b = false → Small g) := by
  obtain ⟨r, e1, e2⟩ := great_from g 71 0 rfl (by omega)
  unfold braidref09_Great
  rw [show (0 : Int) = ((0 : Nat) : Int) from rfl, e1]
  rcases e2 with rfl | ⟨rfl, e3⟩
  · exact ⟨true, rfl, fun h => absurd h (by simp)⟩
  · simp only [or_r, bS]
    have key : ∀ (P : Bool), (P = false → g.Ops.length ≤ 70 ∧ g.IDs.length ≤ 70) → P = false → Small g := fun P h hp => ⟨(h hp).1, (h hp).2, fun i hi => e3 i hi (Nat.zero_le _) (by have := (h hp).1; omega)⟩
    by_cases hA : 70 < g.Ops.length
    · have a1 : decide (70 < (g.Ops.length : Int)) = true := by simp; omega
      have a2 : decide ((g.Ops.length : Int) ≤ 60) = false := by simp; omega
      rw [a1, a2]
      simp only [if_true, Bool.false_eq_true, if_false]
      exact ⟨true, by split <;> rfl, fun h => absurd h (by simp)⟩
    · have a1 : decide (70 < (g.Ops.length : Int)) = false := by simp; omega
      rw [a1]
      simp only [Bool.false_eq_true, if_false]
      have k2 := key (decide (70 < (g.IDs.length : Int))) fun h => by simp at h; omega
      split
      · split
        · exact ⟨true, rfl, fun h => absurd h (by simp)⟩
        · exact ⟨_, rfl, k2⟩
      · exact ⟨_, rfl, k2⟩
theorem twin_eq (S : Small g) : braidref09_Twin g = some g := by
  have h1 := S.ops
  have h2 := S.ids
  have main := iter_run (F := braidref09_Twin_L0 g) (b := g.Ops) g.Ops.length (fun i => (g.Ops.take i, (i : Int))) (fun i hi => ?_) ?_
  · unfold braidref09_Twin
    rw [app_eq (by simp; omega)]
    simp only [bS, List.nil_append]
    rw [List.take_zero] at main
    rw [show (0 : Int) = ((0 : Nat) : Int) from rfl, main]
    simp only [bS]
  · have h4 := (S.op i hi).1
    unfold braidref09_Twin_L0 braidref06_Twin
    rw [if_pos (by simpa using hi)]
    simp only []
    rw [idx_nat hi]
    simp only [bS]
    rw [app_eq (by simp; omega)]
    simp only [bS, List.nil_append]
    rw [app_eq (by simp; omega), w64_nat (by omega)]
    simp only [bS]
    rw [List.take_add_one, List.getElem?_eq_getElem hi]; rfl
  · unfold braidref09_Twin_L0
    rw [if_neg (by simp), List.take_length]
theorem sameIDs_self (l : List ID) (hl : l.length ≤ 1000) : braidref04_SameIDs l l = some true := by
  have := iter_run (F := braidref04_SameIDs_L0 l l) (b := .inr ()) l.length (fun i => (i : Int)) (fun i hi => ?_) ?_
  · unfold braidref04_SameIDs
    rw [if_neg (by simp), show (0 : Int) = ((0 : Nat) : Int) from rfl, this]; rfl
  · unfold braidref04_SameIDs_L0
    rw [if_pos (by simpa using hi), idx_nat hi, w64_nat (by omega)]
    simp only [bS]
    rw [if_neg (by simp)]
  · unfold braidref04_SameIDs_L0
    rw [if_neg (by simp)]
theorem same_self (S : Small g) : braidref09_Same g g = some true := by
  have h1 := S.ops
  have h2 := S.ids
  have := iter_run (F := braidref09_Same_L0 g g) (b := .inr ()) g.Ops.length (fun i => (i : Int)) (fun i hi => ?_) ?_
  · unfold braidref09_Same
    rw [sameIDs_self _ (by omega)]
    simp only [bS]
    rw [if_neg (by simp), if_neg (by simp), show (0 : Int) = ((0 : Nat) : Int) from rfl, this]; rfl
  · have h4 := (S.op i hi).1
    have hs : braidref06_Same g.Ops[i] g.Ops[i] = some true := by
      unfold braidref06_Same
      rw [if_pos (by simp), sameIDs_self _ (by omega)]
      simp only [bS]
      simp
    unfold braidref09_Same_L0
    rw [if_pos (by simpa using hi), idx_nat hi]
    simp only [bS]
    rw [hs, w64_nat (by omega)]
    simp only [bS]
    rw [if_neg (by simp)]
  · unfold braidref09_Same_L0
    rw [if_neg (by simp)]
end
section
open Go
variable {g : api_Graph}
theorem takeS {α : Type} {l : List α} {n : Nat} (h : n < l.length) : l.take (n + 1) = l.take n ++ [l[n]] := by
  rw [List.take_add_one, List.getElem?_eq_getElem h]; rfl
theorem mem_le {l : List (Vector UInt8 32)} (hso : l.Pairwise fun x y => kd x ≤ kd y) {n i : Nat} (hi : i < l.length) (hn : n ≤ i + 1) : ∀ x ∈ l.take n, kd x ≤ kd l[i] := by
  intro x hx
  obtain ⟨j, hj, rfl⟩ := List.getElem_of_mem hx
  rw [List.length_take] at hj
  rw [List.getElem_take]
  by_cases hji : j = i
  · subst hji; exact Nat.le_refl _
  · exact List.pairwise_iff_getElem.1 hso j i (by omega) hi (by omega)
theorem strict_snoc {l : List (Vector UInt8 32)} {x : Vector UInt8 32} (h : l.Pairwise fun a b => kd a < kd b) (hx : ∀ y ∈ l, kd y < kd x) : (l ++ [x]).Pairwise fun a b => kd a < kd b := by
  rw [List.pairwise_append]
  exact ⟨h, by simp, fun a ha b hb => by rw [List.mem_singleton] at hb; subst hb; exact hx a ha⟩
theorem compact_run2 (l : List (Vector UInt8 32)) (hl : l.length ≤ 1000) (hso : l.Pairwise fun x y => kd x ≤ kd y) (s : Nat) (h1 : 1 ≤ s) (hs : s < l.length) (hst : (l.take s).Pairwise fun x y => kd x < kd y) (heq : l[s] = l[s - 1]) :
    ∃ b : List (Vector UInt8 32) × Int, iter (slices_Compact_api_ID_api_ID_L2 l s) (l, (s : Int), 1) = some b ∧ b.1.length = l.length ∧ ∃ j : Nat, b.2 = (j : Int) ∧ j < l.length ∧ (b.1.take j).Pairwise (fun x y => kd x < kd y) ∧ ∀ x, x ∈ b.1.take j ↔ x ∈ l := by
  refine iter_up (F := slices_Compact_api_ID_api_ID_L2 l s) (l.length - s)
    (fun i st => st.1.length = l.length ∧ st.2.2 = (i : Int) ∧ 1 ≤ i ∧ ∃ j : Nat, st.2.1 = (j : Int) ∧ j + 1 ≤ s + i ∧ (∀ q, s + i - 1 ≤ q → st.1[q]? = l[q]?) ∧ (st.1.take j).Pairwise (fun x y => kd x < kd y) ∧ ∀ x, x ∈ st.1.take j ↔ x ∈ l.take (s + i)) _ ?_ ?_ _ 1 (by omega)
    ⟨rfl, rfl, by omega, s, rfl, by omega, fun _ _ => rfl, hst, fun x => ?_⟩
  · rintro i ⟨c, j', i'⟩ hi ⟨e1, e2, e0, j, e3, e4, e5, e6, e7⟩
    simp only at e1 e2 e3 e5 e6 e7
    subst e2 e3
    have g1 : c[s + i]'(by omega) = l[s + i]'(by omega) := by
      have := e5 (s + i) (by omega)
      rw [List.getElem?_eq_getElem (by omega), List.getElem?_eq_getElem (by omega)] at this
      exact Option.some.inj this
    have g2 : c[s + (i - 1)]'(by omega) = l[s + (i - 1)]'(by omega) := by
      have := e5 (s + (i - 1)) (by omega)
      rw [List.getElem?_eq_getElem (by omega), List.getElem?_eq_getElem (by omega)] at this
      exact Option.some.inj this
    have hs1 : l.take (s + (i + 1)) = l.take (s + i) ++ [l[s + i]'(by omega)] := takeS (n := s + i) (by omega)
    unfold slices_Compact_api_ID_api_ID_L2
    rw [if_pos (by simp; omega)]
    simp only [Int.toNat_natCast]
    rw [subi_eq (by omega), w64_eq (x := (i : Int) - 1) (by omega) (by omega), show ((i : Int) - 1) = ((i - 1 : Nat) : Int) by omega, subi_eq (by omega)]
    simp only [bS]
    rw [idx_nat (by omega), idx_nat (by omega)]
    simp only [bS]
    by_cases hc : c[s + i]'(by omega) = c[s + (i - 1)]'(by omega)
    · rw [decide_eq_true hc, if_neg (by simp)]
      refine ⟨_, rfl, e1, w64_nat (by omega), by omega, j, rfl, by omega, fun q hq => e5 q (by omega), e6, fun x => ?_⟩
      rw [e7, hs1, List.mem_append]
      refine ⟨.inl, fun h => h.elim id fun h => ?_⟩
      have hx : x = l[s + i]'(by omega) := List.mem_singleton.1 h
      rw [hx, ← g1, hc, g2, List.mem_take_iff_getElem]
      exact ⟨s + (i - 1), by omega, rfl⟩
    · rw [decide_eq_false hc, if_pos (by simp), idx_nat (by omega)]
      simp only [bS]
      have hset : (c.set j (l[s + i]'(by omega))).take (j + 1) = c.take j ++ [l[s + i]'(by omega)] := by
        rw [takeS (by rw [List.length_set]; omega), List.take_set_of_le (Nat.le_refl _), List.getElem_set_self]
      refine ⟨_, rfl, by simpa using e1, w64_nat (by omega), by omega, j + 1, w64_nat (by omega), by omega, fun q hq => ?_, ?_, fun x => ?_⟩
      · show (c.set j _)[q]? = _
        rw [List.getElem?_set_ne (by omega)]; exact e5 q (by omega)
      · show ((c.set j (c[s + i]'(by omega))).take (j + 1)).Pairwise _
        rw [g1, hset]
        refine strict_snoc e6 fun y hy => ?_
        have h1 := mem_le hso (n := s + i) (i := s + (i - 1)) (by omega) (by omega) y ((e7 y).1 hy)
        have h2 : kd (l[s + (i - 1)]'(by omega)) ≤ kd (l[s + i]'(by omega)) := List.pairwise_iff_getElem.1 hso _ _ (by omega) (by omega) (by omega)
        have h3 : kd (l[s + (i - 1)]'(by omega)) ≠ kd (l[s + i]'(by omega)) := fun e => hc (by rw [g1, g2]; exact (kd_inj e).symm)
        omega
      · show x ∈ (c.set j (c[s + i]'(by omega))).take (j + 1) ↔ _
        rw [g1, hset, hs1, List.mem_append, List.mem_append, e7]
  · rintro ⟨c, j', i'⟩ ⟨e1, e2, e0, j, e3, e4, e5, e6, e7⟩
    simp only at e1 e2 e3 e5 e6 e7
    subst e2 e3
    unfold slices_Compact_api_ID_api_ID_L2
    rw [if_neg (by simp <;> omega)]
    refine ⟨_, rfl, e1, j, rfl, by omega, e6, fun x => ?_⟩
    rw [e7, List.take_of_length_le (by omega)]
  · show x ∈ l.take s ↔ x ∈ l.take (s + 1)
    rw [takeS hs, List.mem_append]
    refine ⟨.inl, fun h => h.elim id fun h => ?_⟩
    have hx : x = l[s] := List.mem_singleton.1 h
    rw [hx, heq, List.mem_take_iff_getElem]
    exact ⟨s - 1, by omega, rfl⟩
theorem compact_sorted (l : List (Vector UInt8 32)) (hl : l.length ≤ 1000) (hso : l.Pairwise fun x y => kd x ≤ kd y) : ∃ c, slices_Compact_api_ID_api_ID l = some c ∧ incr c = true ∧ ∀ x, x ∈ c ↔ x ∈ l := by
  have key : ∀ k n, l.length - n = k → 1 ≤ n → n ≤ l.length → (l.take n).Pairwise (fun x y => kd x < kd y) → ∃ r : Sum (List (Vector UInt8 32)) Unit, iter (slices_Compact_api_ID_api_ID_L0 l) (n : Int) = some r ∧ ((r = .inr () ∧ l.Pairwise fun x y => kd x < kd y) ∨ (∃ c, r = .inl c ∧ (c.Pairwise fun x y => kd x < kd y) ∧ ∀ x, x ∈ c ↔ x ∈ l)) := by
    intro k
    induction k with
    | zero =>
      intro n hk h1 hn hst
      refine ⟨_, iter_l ?_, .inl ⟨rfl, ?_⟩⟩
      · unfold slices_Compact_api_ID_api_ID_L0
        rw [if_neg (by simp; omega)]
      · rw [List.take_of_length_le (by omega)] at hst; exact hst
    | succ k ih =>
      intro n hk h1 hn hst
      have hlt : n < l.length := by omega
      by_cases hc : l[n] = l[n - 1]
      · obtain ⟨⟨c, j'⟩, e1, e2, j, e3, e4, e5, e6⟩ := compact_run2 l hl hso n h1 hlt hst hc
        simp only at e2 e3 e5 e6
        subst e3
        have hF : slices_Compact_api_ID_api_ID_L0 l (n : Int) = some (.inl (.inl (c.take j))) := by
          unfold slices_Compact_api_ID_api_ID_L0
          rw [if_pos (by simp; omega), idx_nat hlt, w64_eq (by omega) (by omega), show ((n : Int) - 1) = ((n - 1 : Nat) : Int) by omega, idx_nat (by omega)]
          simp only [bS]
          rw [decide_eq_true hc, if_pos rfl, chk_true (by omega)]
          simp only [bS]
          rw [e1]
          simp only [bS]
          rw [chk_true (by omega), chk_true (by simp; omega)]
          simp only [bS, Int.toNat_natCast]
          rw [show (0 : Int) = ((0 : Nat) : Int) from rfl, cut_eq (by omega) (by rw [clr_len _ _ _ _ (by omega)]; omega)]
          simp only [bS, List.drop_zero, Nat.sub_zero]
          have : (clr c j (c.length - j) (Vector.replicate 32 0)).take j = c.take j := by
            unfold clr
            first
              | rw [List.append_assoc, List.take_append_of_le_length (by rw [List.length_take]; omega), List.take_take, Nat.min_self]
              | rw [List.take_append_of_le_length (by rw [List.length_take]; omega), List.take_take, Nat.min_self]
          rw [this]
        exact ⟨_, iter_l hF, .inr ⟨_, rfl, e5, e6⟩⟩
      · have hF : slices_Compact_api_ID_api_ID_L0 l (n : Int) = some (.inr ((n + 1 : Nat) : Int)) := by
          unfold slices_Compact_api_ID_api_ID_L0
          rw [if_pos (by simp; omega), idx_nat hlt, w64_eq (x := (n : Int) - 1) (by omega) (by omega), show ((n : Int) - 1) = ((n - 1 : Nat) : Int) by omega, idx_nat (by omega)]
          simp only [bS]
          rw [decide_eq_false hc, if_neg (by simp), w64_nat (by omega)]
        obtain ⟨r, h2, h3⟩ := ih (n + 1) (by omega) (by omega) (by omega) (by
          rw [takeS hlt]
          refine strict_snoc hst fun y hy => ?_
          have h1' := mem_le hso (n := n) (i := n - 1) (by omega) (by omega) y hy
          have h2' : kd (l[n - 1]'(by omega)) ≤ kd l[n] := List.pairwise_iff_getElem.1 hso _ _ (by omega) hlt (by omega)
          have h3' : kd (l[n - 1]'(by omega)) ≠ kd l[n] := fun e => hc (kd_inj e).symm
          omega)
        exact ⟨r, by rw [iter_r hF]; exact h2, h3⟩
  unfold slices_Compact_api_ID_api_ID
  by_cases h2 : l.length < 2
  · rw [if_pos (by simp; omega)]
    refine ⟨l, rfl, ?_, fun x => Iff.rfl⟩
    match l, h2 with
    | [], _ => rfl
    | [_], _ => rfl
  · rw [if_neg (by simp; omega)]
    obtain ⟨r, e1, e2⟩ := key (l.length - 1) 1 rfl (by omega) (by omega) (by rw [takeS (by omega)]; simp)
    rw [show (1 : Int) = ((1 : Nat) : Int) from rfl, e1]
    rcases e2 with ⟨rfl, h3⟩ | ⟨c, rfl, h3, h4⟩
    · exact ⟨l, rfl, (incr_pw l).2 h3, fun x => Iff.rfl⟩
    · exact ⟨c, rfl, (incr_pw c).2 h3, h4⟩
theorem index_q0 (m : List (ID × Int)) (p : ID → Bool) (hp : ∀ x, (mget m x).isSome = p x) (l : List ID) (hl : l.length ≤ 1000) : ∃ b : Sum Int Unit, iter (slices_IndexFunc_api_ID_api_ID_q0_L0 l m) 0 = some b ∧ ((b = .inr () ∧ ∀ x ∈ l, p x = false) ∨ ∃ i : Nat, b = .inl (i : Int) ∧ (∃ h : i < l.length, p l[i] = true) ∧ ∀ k (h : k < l.length), k < i → p l[k] = false) := by
  refine iter_inv (F := slices_IndexFunc_api_ID_api_ID_q0_L0 l m) (fun s => ∃ i : Nat, s = (i : Int) ∧ i ≤ l.length ∧ ∀ k (h : k < l.length), k < i → p l[k] = false) (fun s => l.length - s.toNat) _ ?_ 0 ⟨0, rfl, Nat.zero_le _, fun k _ h => by omega⟩
  rintro s ⟨i, rfl, h1, h2⟩
  by_cases hi : i < l.length
  · have hF : slices_IndexFunc_api_ID_api_ID_q0_L0 l m (i : Int) = if p l[i] then some (.inl (.inl (i : Int))) else some (.inr ((i + 1 : Nat) : Int)) := by
      unfold slices_IndexFunc_api_ID_api_ID_q0_L0 ancestry_Missing_1
      rw [if_pos (by simpa using hi), idx_nat hi, w64_nat (by omega)]
      simp only [bS]
      rw [hp]
    cases hc : p l[i] with
    | true => rw [hc] at hF; exact .inl ⟨_, hF, .inr ⟨i, rfl, ⟨hi, hc⟩, h2⟩⟩
    | false =>
      rw [hc] at hF
      refine .inr ⟨_, hF, ⟨i + 1, rfl, hi, fun k hk hki => ?_⟩, by simp; omega⟩
      by_cases hk' : k = i
      · subst hk'; exact hc
      · exact h2 k hk (by omega)
  · refine .inl ⟨.inr (), ?_, .inl ⟨rfl, fun x hx => ?_⟩⟩
    · unfold slices_IndexFunc_api_ID_api_ID_q0_L0
      rw [if_neg (by simpa using hi)]
    · obtain ⟨k, hk, rfl⟩ := List.getElem_of_mem hx
      exact h2 k hk (by omega)
theorem del_eq (m : List (ID × Int)) (p : ID → Bool) (hp : ∀ x, (mget m x).isSome = p x) (l : List ID) (hl : l.length ≤ 1000) : slices_DeleteFunc_api_ID_api_ID_ancestry_Missing_1 l m = some (l.filter fun x => !p x) := by
  obtain ⟨b, b1, b2⟩ := index_q0 m p hp l hl
  unfold slices_DeleteFunc_api_ID_api_ID_ancestry_Missing_1 slices_IndexFunc_api_ID_api_ID_q0
  rw [b1]
  rcases b2 with ⟨rfl, b3⟩ | ⟨i, rfl, ⟨b3, b5⟩, b4⟩
  · simp only [or_r, bS]
    rw [if_pos (by rfl), List.filter_eq_self.2 (fun x hx => by rw [b3 x hx]; first | done | rfl)]
  · simp only [or_l, bS]
    rw [if_neg (by simp <;> omega), w64_nat (by omega)]
    have h0 : (l.take (i + 1)).filter (fun x => !p x) = l.take i := by
      rw [takeS b3, List.filter_append, List.filter_cons_of_neg (by rw [b5]; simp), List.filter_nil, List.append_nil]
      refine List.filter_eq_self.2 fun x hx => ?_
      obtain ⟨k, hk, rfl⟩ := List.getElem_of_mem hx
      rw [List.length_take] at hk
      rw [List.getElem_take, b4 k (by omega) (by omega)]; rfl
    have main := iter_up (F := slices_DeleteFunc_api_ID_api_ID_ancestry_Missing_1_L0 m) l.length
      (fun j st => st.1.length = l.length ∧ st.2.2 = (j : Int) ∧ ∃ i : Nat, st.2.1 = (i : Int) ∧ i < j ∧ (∀ q, j ≤ q → st.1[q]? = l[q]?) ∧ st.1.take i = (l.take j).filter fun x => !p x)
      (fun b => b.1.length = l.length ∧ ∃ i : Nat, b.2 = (i : Int) ∧ i ≤ l.length ∧ b.1.take i = l.filter fun x => !p x)
      (fun j st hj hst => by
        obtain ⟨c, i', j'⟩ := st
        obtain ⟨e1, e2, i, e3, e4, e5, e6⟩ := hst
        simp only at e1 e2 e3 e5 e6
        subst e2 e3
        have g1 : c[j]'(by omega) = l[j] := by
          have := e5 j (Nat.le_refl _)
          rw [List.getElem?_eq_getElem (by omega), List.getElem?_eq_getElem (by omega)] at this
          exact Option.some.inj this
        have hF : slices_DeleteFunc_api_ID_api_ID_ancestry_Missing_1_L0 m (c, (i : Int), (j : Int)) = if !p l[j] then some (.inr (c.set i l[j], ((i + 1 : Nat) : Int), ((j + 1 : Nat) : Int))) else some (.inr (c, (i : Int), ((j + 1 : Nat) : Int))) := by
          unfold slices_DeleteFunc_api_ID_api_ID_ancestry_Missing_1_L0 ancestry_Missing_1
          rw [if_pos (by simp; omega)]
          simp only []
          rw [idx_nat (by omega), g1]
          simp only [bS]
          rw [hp, idx_nat (by omega), w64_nat (by omega), w64_nat (by omega)]
          simp only [bS, Int.toNat_natCast]
        cases hc : p l[j] with
        | true =>
          rw [hc, if_neg (by simp)] at hF
          refine ⟨_, hF, e1, rfl, i, rfl, by omega, fun q hq => e5 q (by omega), ?_⟩
          rw [takeS hj, List.filter_append, List.filter_cons_of_neg (by rw [hc]; simp), List.filter_nil, List.append_nil]
          exact e6
        | false =>
          rw [hc, if_pos (by simp)] at hF
          refine ⟨_, hF, by simpa using e1, rfl, i + 1, rfl, by omega, fun q hq => ?_, ?_⟩
          · show (c.set i _)[q]? = _
            rw [List.getElem?_set_ne (by omega)]; exact e5 q (by omega)
          · show (c.set i l[j]).take (i + 1) = _
            rw [takeS (by rw [List.length_set]; omega), List.take_set_of_le (Nat.le_refl _), List.getElem_set_self, e6, takeS hj, List.filter_append, List.filter_cons_of_pos (by rw [hc]; simp), List.filter_nil])
      (fun st hst => by
        obtain ⟨c, i', j'⟩ := st
        obtain ⟨e1, e2, i, e3, e4, e5, e6⟩ := hst
        simp only at e1 e2 e3 e5 e6
        subst e2 e3
        refine ⟨(c, (i : Int)), ?_, e1, i, rfl, by omega, ?_⟩
        · unfold slices_DeleteFunc_api_ID_api_ID_ancestry_Missing_1_L0
          rw [if_neg (by simp; omega)]
        · rw [List.take_length] at e6; exact e6)
      (l, (i : Int), ((i + 1 : Nat) : Int)) (i + 1) b3 ⟨rfl, rfl, i, rfl, by omega, fun _ _ => rfl, h0.symm⟩
    obtain ⟨⟨c, k'⟩, m1, m2, k, m3, m4, m5⟩ := main
    simp only at m2 m3 m5
    subst m3
    rw [m1]
    simp only [bS]
    rw [chk_true (by omega), chk_true (by simp; omega)]
    simp only [bS, Int.toNat_natCast]
    rw [show (0 : Int) = ((0 : Nat) : Int) from rfl, cut_eq (by omega) (by rw [clr_len _ _ _ _ (by omega)]; omega)]
    simp only [bS, List.drop_zero, Nat.sub_zero]
    have : (clr c k (c.length - k) (Vector.replicate 32 0)).take k = c.take k := by
      unfold clr
      first
              | rw [List.append_assoc, List.take_append_of_le_length (by rw [List.length_take]; omega), List.take_take, Nat.min_self]
              | rw [List.take_append_of_le_length (by rw [List.length_take]; omega), List.take_take, Nat.min_self]
    rw [this, m5]
theorem places_some (E : GoodE g) : ∃ m, ancestry_places g = some m ∧ ∀ x, (mget m x).isSome = decide (x ∈ g.IDs) := by
  have hlen := E.len
  have hids := E.ids
  have main := iter_up (F := ancestry_places_L0 g) g.IDs.length
    (fun i s => s.2 = (i : Int) ∧ ∀ x, (mget s.1 x).isSome = decide (x ∈ g.IDs.take i))
    (fun m => ∀ x, (mget m x).isSome = decide (x ∈ g.IDs))
    (fun i s hi hs => by
      obtain ⟨m, i'⟩ := s
      obtain ⟨h1, h2⟩ := hs
      simp only at h1 h2
      subst h1
      refine ⟨(mput m g.IDs[i] (i : Int), ((i + 1 : Nat) : Int)), ?_, rfl, fun x => ?_⟩
      · unfold ancestry_places_L0
        rw [if_pos (by simpa using hi)]
        simp only []
        rw [idx_nat hi, w64_nat (by omega)]
        simp only [bS]
      · simp only []
        rw [mget_mput, takeS hi]
        by_cases he : x = g.IDs[i]
        · rw [if_pos he, decide_eq_true (List.mem_append.2 (.inr (List.mem_singleton.2 he)))]; rfl
        · rw [if_neg he, h2, decide_eq_decide, List.mem_append]
          exact ⟨.inl, fun h => h.resolve_right fun h => he (List.mem_singleton.1 h)⟩)
    (fun s hs => by
      obtain ⟨m, i'⟩ := s
      obtain ⟨h1, h2⟩ := hs
      simp only at h1 h2
      subst h1
      rw [List.take_length] at h2
      refine ⟨m, ?_, h2⟩
      unfold ancestry_places_L0
      rw [if_neg (by simp)])
    (([] : List (ID × Int)), 0) 0 (Nat.zero_le _) ⟨rfl, fun x => by simp [mget]⟩
  obtain ⟨m, h1, h2⟩ := main
  refine ⟨m, ?_, h2⟩
  unfold ancestry_places
  rw [h1]
  simp only [bS]
theorem absent_eq (E : GoodE g) (l : List ID) (hl : l.length ≤ 100) : ∃ s, braidref10_Absent g.IDs l = some s ∧ incr s = true ∧ ∀ x, x ∈ s ↔ x ∈ l ∧ x ∉ g.IDs := by
  have hlen := E.len
  have hids := E.ids
  have main := iter_up (F := braidref10_Absent_L0 g.IDs l) l.length
    (fun i st => st.2 = (i : Int) ∧ st.1 = (l.take i).filter fun x => !decide (x ∈ g.IDs))
    (fun r => r = l.filter fun x => !decide (x ∈ g.IDs))
    (fun i st hi hst => by
      obtain ⟨s, i'⟩ := st
      obtain ⟨h1, h2⟩ := hst
      simp only at h1 h2
      subst h1 h2
      obtain ⟨k, k1, k2⟩ := at_neg g.IDs l[i] (by omega)
      have hfl : ((l.take i).filter fun x => !decide (x ∈ g.IDs)).length ≤ (l.take i).length := List.length_filter_le _ _
      rw [List.length_take] at hfl
      refine ⟨((l.take (i + 1)).filter (fun x => !decide (x ∈ g.IDs)), ((i + 1 : Nat) : Int)), ?_, rfl, rfl⟩
      unfold braidref10_Absent_L0
      rw [if_pos (by simpa using hi)]
      simp only []
      rw [idx_nat hi]
      simp only [bS]
      rw [k1]
      simp only [bS]
      rw [k2, takeS hi, List.filter_append, w64_nat (by omega)]
      cases hc : decide (l[i] ∈ g.IDs) with
      | true =>
        rw [if_neg (by simp), List.filter_cons_of_neg (by rw [hc]; simp)]
        simp
      | false =>
        rw [if_pos (by simp), List.filter_cons_of_pos (by rw [hc]; simp), app_eq (by simp only [List.length_cons, List.length_nil]; omega)]
        simp only [bS, List.filter_nil])
    (fun st hst => by
      obtain ⟨s, i'⟩ := st
      obtain ⟨h1, h2⟩ := hst
      simp only at h1 h2
      subst h1 h2
      refine ⟨_, ?_, rfl⟩
      unfold braidref10_Absent_L0
      rw [if_neg (by simp), List.take_length])
    ([], 0) 0 (Nat.zero_le _) ⟨rfl, by simp⟩
  obtain ⟨r, h1, hr⟩ := main
  have hfl : r.length ≤ l.length := by rw [hr]; exact List.length_filter_le _ _
  obtain ⟨s, s1, s2, s3⟩ := sorted10_eq r (by omega)
  refine ⟨s, ?_, s2, fun x => ?_⟩
  · unfold braidref10_Absent
    rw [h1]
    simp only [bS]
    rw [s1]
    simp only [bS]
  · rw [s3, hr, List.mem_filter]; simp
theorem missing_eq {c : Int} (h1 : dag_Check g = some c) (h2 : braidref09_Check g = some c) (h3 : c = 0 ↔ GoodG g) (l : List ID) (hl : l.length ≤ 100) :
    ∃ r, ancestry_Missing g l = some r ∧ braidref10_Missing g l = some r ∧ r.1.length ≤ 100 ∧
      ((c ≠ 0 ∧ r = ([], c)) ∨ (c = 0 ∧ 60 < l.length ∧ r = ([], 4)) ∨ (c = 0 ∧ l.length ≤ 60 ∧ r.2 = 0 ∧ ∀ x, x ∈ r.1 ↔ x ∈ l ∧ x ∉ g.IDs)) := by
  unfold ancestry_Missing braidref10_Missing
  rw [h1, h2]
  simp only [bS]
  by_cases hc : c = 0
  · subst hc
    have G := h3.1 rfl
    have d0 : ((0 : Int) != 0) = false := rfl
    simp only [d0, Bool.false_eq_true, if_false]
    by_cases hb : 60 < l.length
    · rw [if_pos (by simp; omega), if_pos (by simp; omega)]
      exact ⟨_, rfl, rfl, by simp, .inr (.inl ⟨by first | rfl | trivial, hb, rfl⟩)⟩
    · rw [if_neg (by simp; omega), if_neg (by simp; omega)]
      obtain ⟨m, m1, m2⟩ := places_some G.e
      obtain ⟨s, s1, s2, s3⟩ := absent_eq G.e l hl
      obtain ⟨F, f1, f2, f3⟩ : ∃ F, slices_DeleteFunc_api_ID_api_ID_ancestry_Missing_1 l m = some F ∧ F.length ≤ l.length ∧ ∀ x, x ∈ F ↔ x ∈ l ∧ x ∉ g.IDs :=
        ⟨_, del_eq m _ m2 l (by omega), List.length_filter_le _ _, fun x => by rw [List.mem_filter]; simp⟩
      obtain ⟨d, d1, d2, d3⟩ := compact_sorted (srtID F) (by rw [srtID_len]; omega) (srtID_sorted _)
      have hds : d = s := rising_unique _ _ ((incr_pw _).1 d2) ((incr_pw _).1 s2) fun x => by rw [d3, srtID_mem, f3, s3]
      have hdl : d.length ≤ l.length := by
        have := nodup_le d F (incr_nodup d2) fun x hx => by rw [d3, srtID_mem] at hx; exact hx
        omega
      rw [m1]
      simp only [bS]
      rw [clone_ids l hl]
      simp only [bS]
      rw [f1]
      simp only [bS]
      unfold sortF
      rw [chk_true (by omega)]
      simp only [bS]
      rw [d1, s1, hds]
      simp only [bS]
      refine ⟨(s, 0), rfl, rfl, by rw [← hds]; simp only []; omega, .inr (.inr ⟨by first | rfl | trivial, by omega, rfl, s3⟩)⟩
  · have hcb : (c != 0) = true := by simpa using hc
    rw [hcb]
    exact ⟨_, rfl, rfl, by simp, .inl ⟨hc, rfl⟩⟩
end
section
open Go
variable {g : api_Graph}
theorem order_greedy (G : GoodG g) : ∃ Q, braidref09_Order g = some (il Q) ∧ Greedy (preds g) g.Ops.length Q ∧ Q.length = g.Ops.length := by
  have E := G.e
  have hP := goodP E G.ins
  have hlen := E.len
  have main := iter_inv (F := braidref09_Order_L0 g)
    (fun s => ∃ Q b, s = ordSt g Q b ∧ Greedy (preds g) g.Ops.length Q ∧ (b = false → ∀ i, i < g.Ops.length → (∀ p ∈ preds g i, p ∈ Q) → i ∈ Q))
    (fun s => (g.Ops.length - s.1.length) + (if s.2.2.2 then 1 else 0))
    (fun r => ∃ Q : List Nat, r = il Q ∧ Greedy (preds g) g.Ops.length Q ∧ Q.length = g.Ops.length)
    (fun s hs => by
      obtain ⟨Q, b, rfl, h1, h3⟩ := hs
      obtain ⟨hg, ht⟩ := h1.got
      have hql := hg.len
      cases b with
      | false =>
        left
        refine ⟨il Q, rfl, Q, rfl, h1, ?_⟩
        have : ¬ Q.length < g.Ops.length := (full_iff hg.nodup hg.lt).2 fun i hi => by
          have hw := G.wf i hi
          revert hi
          induction hw with
          | mk i hpi ih => exact fun hi => h3 rfl i hi fun p hp => ih p hp (hP.lt i p hp)
        omega
      | true =>
        right
        obtain ⟨r, e1, e2⟩ := ord_L2 E G.ins Q hg ht
        rcases e2 with ⟨i, rfl, e3, e4, e5, e6, e7, e8⟩ | ⟨rfl, e3⟩
        · refine ⟨_, ?_, ⟨Q ++ [i], true, rfl, .snoc h1 ⟨e5, canTake_iff.2 ⟨e6, e7⟩, fun j hj => ?_⟩, by simp⟩, ?_⟩
          · unfold braidref09_Order_L0
            exact (if_pos rfl).trans e1
          · cases hc : canTake (preds g) Q j with
            | false => rfl
            | true =>
              obtain ⟨c1, c2⟩ := canTake_iff.1 hc
              exact absurd (e8 j hj c2) c1
          · have := e3.len
            simp only [ordSt, il_len, List.length_append, List.length_cons, List.length_nil] at this ⊢
            omega
        · refine ⟨_, ?_, ⟨Q, false, rfl, h1, fun _ => e3⟩, ?_⟩
          · unfold braidref09_Order_L0
            exact (if_pos rfl).trans e1
          · simp [ordSt])
    ([], [], List.replicate g.Ops.length false, true) ⟨[], true, by unfold ordSt; rw [tab_const]; simp [il], .nil, by simp⟩
  obtain ⟨r, e1, Q, rfl, e2, e3⟩ := main
  refine ⟨Q, ?_, e2, e3⟩
  unfold braidref09_Order
  rw [mkn_eq (by omega) (by omega)]
  simp only [bS]
  rw [e1]
  simp only [bS]
theorem listed_eq (E : GoodE g) {Q : List Nat} (hQ : ∀ x ∈ Q, x < g.Ops.length) (hl : Q.length ≤ 100) (h : braidref09_Order g = some (il Q)) : braidref10_Listed g = some (Q.map (idAt g)) := by
  have hlen := E.len
  have hids := E.ids
  have main := iter_run (F := braidref10_Listed_L0 g (il Q)) (b := Q.map (idAt g)) Q.length (fun k => ((Q.take k).map (idAt g), (k : Int))) (fun k hk => ?_) ?_
  · unfold braidref10_Listed
    rw [h]
    simp only [bS]
    rw [List.take_zero, List.map_nil, show ((0 : Nat) : Int) = 0 from rfl] at main
    rw [main]
    simp only [bS]
  · have hx := hQ _ (List.getElem_mem hk)
    have hxi : Q[k] < g.IDs.length := by omega
    unfold braidref10_Listed_L0
    rw [if_pos (by rw [il_len]; simpa using hk)]
    simp only []
    rw [il_idx hk]
    simp only [bS]
    rw [idx_nat hxi]
    simp only [bS]
    rw [app_eq (by rw [List.length_map, List.length_take]; simp only [List.length_cons, List.length_nil]; omega), w64_nat (by omega), takeS hk, List.map_append, ← idAt_get hxi]
    simp only [bS]
    rfl
  · unfold braidref10_Listed_L0
    rw [if_neg (by rw [il_len]; simp), List.take_length]
theorem order10_eq {c : Int} (h1 : dag_Check g = some c) (h2 : braidref09_Check g = some c) (h3 : c = 0 ↔ GoodG g) : ∃ r, ancestry_Order g = some r ∧ braidref10_Order g = some r ∧ r.1.length ≤ 60 := by
  by_cases hc : c = 0
  · subst hc
    have G := h3.1 rfl
    have hlen := G.e.len
    obtain ⟨Q, q1, q2, q3⟩ := order_ok G h1
    obtain ⟨R, r1, r2, r3⟩ := order_greedy G
    have : Q = R := q2.unique R r2 (by omega)
    subst this
    refine ⟨_, q1, ?_, by rw [List.length_map]; omega⟩
    unfold braidref10_Order
    rw [h2]
    simp only [bS]
    rw [if_neg (by simp), listed_eq G.e q2.got.1.lt (by omega) r1]
    simp only [bS]
  · have hcb : (c != 0) = true := by simpa using hc
    refine ⟨([], c), ?_, ?_, by simp⟩
    · unfold ancestry_Order
      rw [h1]
      simp only [bS]
      rw [hcb]; rfl
    · unfold braidref10_Order
      rw [h2]
      simp only [bS]
      rw [hcb]; rfl
def subI (g : api_Graph) (m : Nat → Bool) : Nat → List ID
  | 0 => []
  | i + 1 => if m i then subI g m i ++ [idAt g i] else subI g m i
def subO (g : api_Graph) (m : Nat → Bool) : Nat → List api_Op
  | 0 => []
  | i + 1 => if m i then subO g m i ++ g.Ops[i]?.toList else subO g m i
theorem subI_t {g : api_Graph} {m : Nat → Bool} {i : Nat} (h : m i = true) : subI g m (i + 1) = subI g m i ++ [idAt g i] := if_pos h
theorem subO_t {g : api_Graph} {m : Nat → Bool} {i : Nat} (h : m i = true) : subO g m (i + 1) = subO g m i ++ g.Ops[i]?.toList := if_pos h
theorem subI_f {g : api_Graph} {m : Nat → Bool} {i : Nat} (h : m i = false) : subI g m (i + 1) = subI g m i := if_neg (by rw [h]; simp)
theorem subO_f {g : api_Graph} {m : Nat → Bool} {i : Nat} (h : m i = false) : subO g m (i + 1) = subO g m i := if_neg (by rw [h]; simp)
def subG (g : api_Graph) (m : Nat → Bool) : api_Graph := ⟨subI g m g.Ops.length, subO g m g.Ops.length⟩
theorem subI_len (g : api_Graph) (m : Nat → Bool) : ∀ i, (subI g m i).length ≤ i
  | 0 => Nat.le_refl _
  | i + 1 => by
    have := subI_len g m i
    unfold subI
    split
    · rw [List.length_append, List.length_singleton]; omega
    · omega
theorem subO_len (g : api_Graph) (m : Nat → Bool) : ∀ i, (subO g m i).length ≤ i
  | 0 => Nat.le_refl _
  | i + 1 => by
    have := subO_len g m i
    unfold subO
    split
    · rw [List.length_append]
      have : g.Ops[i]?.toList.length ≤ 1 := by cases g.Ops[i]? <;> simp
      omega
    · omega
theorem subO_mem (g : api_Graph) (m : Nat → Bool) : ∀ i, ∀ o ∈ subO g m i, o ∈ g.Ops
  | 0, o, h => by simp [subO] at h
  | i + 1, o, h => by
    unfold subO at h
    split at h
    · rcases List.mem_append.1 h with h | h
      · exact subO_mem g m i o h
      · cases ho : g.Ops[i]? with
        | none => rw [ho] at h; simp at h
        | some q =>
          rw [ho] at h
          have : o = q := by simpa using h
          subst this
          exact List.mem_of_getElem? ho
    · exact subO_mem g m i o h
theorem sub_congr (g : api_Graph) {m m' : Nat → Bool} : ∀ i, (∀ j, j < i → m j = m' j) → subI g m i = subI g m' i ∧ subO g m i = subO g m' i
  | 0, _ => ⟨rfl, rfl⟩
  | i + 1, h => by
    obtain ⟨h1, h2⟩ := sub_congr g i fun j hj => h j (by omega)
    unfold subI subO
    rw [h1, h2, h i (by omega)]
    exact ⟨rfl, rfl⟩
theorem sub_small (S : Small g) (h : g.Ops.length ≤ 60) (m : Nat → Bool) : Small (subG g m) := by
  have h1 := subI_len g m g.Ops.length
  have h2 := subO_len g m g.Ops.length
  refine ⟨by show (subO g m g.Ops.length).length ≤ 70; omega, by show (subI g m g.Ops.length).length ≤ 70; omega, fun i hi => ?_⟩
  have hm := subO_mem g m g.Ops.length _ (List.getElem_mem hi)
  obtain ⟨j, hj, e⟩ := List.getElem_of_mem hm
  have := S.op j hj
  rw [e] at this
  exact this
theorem below_L1 (E : GoodE g) (m : Nat → Bool) : iter (ancestry_Below_L1 g (tab g.Ops.length m)) ([], [], 0) = some (subI g m g.Ops.length, subO g m g.Ops.length) := by
  have hlen := E.len
  have hids := E.ids
  have main := iter_run (F := ancestry_Below_L1 g (tab g.Ops.length m)) (b := (subI g m g.Ops.length, subO g m g.Ops.length)) g.Ops.length (fun i => (subI g m i, subO g m i, (i : Int))) (fun i hi => ?_) ?_
  · exact main
  · have hii : i < g.IDs.length := by omega
    have l1 := subI_len g m i
    have l2 := subO_len g m i
    have h4 := (E.op i hi).1
    unfold ancestry_Below_L1
    rw [if_pos (by rw [tab_len]; simpa using hi)]
    simp only []
    rw [tab_idx hi, w64_nat (by omega)]
    simp only [bS]
    cases hm : m i with
    | false =>
      rw [if_neg (by simp), subI_f hm, subO_f hm]
    | true =>
      rw [if_pos rfl, idx_nat hi]
      simp only [bS]
      rw [clone_ids _ (by omega), idx_nat hii]
      simp only [bS]
      rw [app_eq (by simp only [List.length_cons, List.length_nil]; omega)]
      simp only [bS]
      rw [app_eq (by simp only [List.length_cons, List.length_nil]; omega)]
      simp only [bS]
      rw [subI_t hm, subO_t hm, idAt_get hii, List.getElem?_eq_getElem hi]
      rfl
  · unfold ancestry_Below_L1
    rw [if_neg (by rw [tab_len]; simp)]
theorem part_L0 (E : GoodE g) (s : List ID) (hs : s.length ≤ 100000) : iter (braidref10_Part_L0 g s) ([], [], 0) = some (subI g (fun i => decide (idAt g i ∈ s)) g.Ops.length, subO g (fun i => decide (idAt g i ∈ s)) g.Ops.length) := by
  have hlen := E.len
  have hids := E.ids
  have main := iter_run (F := braidref10_Part_L0 g s) (b := (subI g (fun i => decide (idAt g i ∈ s)) g.Ops.length, subO g (fun i => decide (idAt g i ∈ s)) g.Ops.length)) g.Ops.length (fun i => (subI g (fun i => decide (idAt g i ∈ s)) i, subO g (fun i => decide (idAt g i ∈ s)) i, (i : Int))) (fun i hi => ?_) ?_
  · exact main
  · have hii : i < g.IDs.length := by omega
    have l1 := subI_len g (fun i => decide (idAt g i ∈ s)) i
    have l2 := subO_len g (fun i => decide (idAt g i ∈ s)) i
    obtain ⟨k, k1, k2⟩ := at_neg s g.IDs[i] (by omega)
    have k3 : decide (0 ≤ k) = decide (idAt g i ∈ s) := by
      rw [idAt_get hii]
      cases hd : decide (g.IDs[i] ∈ s) with
      | true => rw [hd] at k2; simp at k2 ⊢; omega
      | false => rw [hd] at k2; simp at k2 ⊢; omega
    unfold braidref10_Part_L0
    rw [if_pos (by simp; omega)]
    simp only []
    rw [idx_nat hii]
    simp only [bS]
    rw [k1]
    simp only [bS]
    rw [k3, w64_nat (by omega)]
    cases hm : decide (idAt g i ∈ s) with
    | false =>
      rw [if_neg (by simp), subI_f hm, subO_f hm]
    | true =>
      rw [if_pos rfl, app_eq (by simp only [List.length_cons, List.length_nil]; omega)]
      simp only [bS]
      rw [idx_nat hi]
      simp only [bS]
      rw [app_eq (by simp only [List.length_cons, List.length_nil]; omega)]
      simp only [bS]
      rw [subI_t hm, subO_t hm, idAt_get hii, List.getElem?_eq_getElem hi]
      rfl
  · unfold braidref10_Part_L0
    rw [if_neg (by simp; omega)]
theorem rch_split {P : Nat → List Nat} {S : List Nat} {i : Nat} : Rch P S i ↔ i ∈ S ∨ ∃ s ∈ S, Rch P (P s) i := by
  constructor
  · intro h
    induction h with
    | base h => exact .inl h
    | @step i p _ hp ih =>
      rcases ih with h | ⟨s, hs, h⟩
      · exact .inr ⟨i, h, .base hp⟩
      · exact .inr ⟨s, hs, .step h hp⟩
  · rintro (h | ⟨s, hs, h⟩)
    · exact .base h
    · exact h.thru fun x hx => .step (.base hs) hx
theorem below10_L0 (E : GoodE g) (h : allIn g = true) (l : List ID) (hl : l.length ≤ 60) (hin : ∀ x ∈ l, x ∈ g.IDs) : ∃ s, iter (braidref10_Below_L0 g l) (l, 0) = some s ∧ s.length ≤ 10000 ∧ ∀ y, y ∈ s ↔ y ∈ l ∨ ∃ x ∈ l, y ∈ g.IDs ∧ Rch (preds g) (preds g (g.IDs.idxOf x)) (g.IDs.idxOf y) := by
  have hlen := E.len
  have hids := E.ids
  have main := iter_up (F := braidref10_Below_L0 g l) l.length
    (fun i st => st.2 = (i : Int) ∧ st.1.length ≤ 60 + 60 * i ∧ ∀ y, y ∈ st.1 ↔ y ∈ l ∨ ∃ x ∈ l.take i, y ∈ g.IDs ∧ Rch (preds g) (preds g (g.IDs.idxOf x)) (g.IDs.idxOf y))
    (fun s => s.length ≤ 10000 ∧ ∀ y, y ∈ s ↔ y ∈ l ∨ ∃ x ∈ l, y ∈ g.IDs ∧ Rch (preds g) (preds g (g.IDs.idxOf x)) (g.IDs.idxOf y))
    (fun i st hi hst => by
      obtain ⟨a, i'⟩ := st
      obtain ⟨h1, h2, h3⟩ := hst
      simp only at h1 h2 h3
      subst h1
      obtain ⟨b, b1, b2, b3⟩ := before_eq E h (hin _ (List.getElem_mem hi))
      have hbl := len_ids (g := g) b2 fun y hy => ((b3 y).1 hy).1
      refine ⟨(a ++ b, ((i + 1 : Nat) : Int)), ?_, rfl, ?_, fun y => ?_⟩
      · unfold braidref10_Below_L0
        rw [if_pos (by simpa using hi)]
        simp only []
        rw [idx_nat hi]
        simp only [bS]
        rw [b1]
        simp only [bS]
        rw [app_eq (by omega), w64_nat (by omega)]
        simp only [bS]
      · simp only [List.length_append]; omega
      · simp only []
        rw [List.mem_append, h3, b3, takeS hi]
        constructor
        · rintro ((h | ⟨x, hx, hy⟩) | hy)
          · exact .inl h
          · exact .inr ⟨x, List.mem_append.2 (.inl hx), hy⟩
          · exact .inr ⟨l[i], List.mem_append.2 (.inr (List.mem_singleton.2 rfl)), hy⟩
        · rintro (h | ⟨x, hx, hy⟩)
          · exact .inl (.inl h)
          · rcases List.mem_append.1 hx with hx | hx
            · exact .inl (.inr ⟨x, hx, hy⟩)
            · have : x = l[i] := List.mem_singleton.1 hx
              subst this; exact .inr hy)
    (fun st hst => by
      obtain ⟨a, i'⟩ := st
      obtain ⟨h1, h2, h3⟩ := hst
      simp only at h1 h2 h3
      subst h1
      rw [List.take_length] at h3
      refine ⟨a, ?_, by omega, h3⟩
      unfold braidref10_Below_L0
      rw [if_neg (by simp)])
    (l, 0) 0 (Nat.zero_le _) ⟨rfl, by simp only []; omega, by simp⟩
  obtain ⟨s, s1, s2, s3⟩ := main
  exact ⟨s, s1, s2, s3⟩
def emptyG : api_Graph := ⟨[], []⟩
theorem small_empty : Small emptyG := ⟨by simp [emptyG], by simp [emptyG], fun i hi => by simp [emptyG] at hi⟩
theorem below_eq (S : Small g) {c : Int} (h1 : dag_Check g = some c) (h2 : braidref09_Check g = some c) (h3 : c = 0 ↔ GoodG g) (l : List ID) (hl : l.length ≤ 100) : ∃ r, ancestry_Below g l = some r ∧ braidref10_Below g l = some r ∧ Small r.1 := by
  obtain ⟨r, r1, r2, r3, r4⟩ := missing_eq h1 h2 h3 l hl
  unfold ancestry_Below braidref10_Below
  rw [r1, h2]
  simp only [bS]
  have d0 : ((0 : Int) != 0) = false := rfl
  rcases r4 with ⟨hc, rfl⟩ | ⟨rfl, hb, rfl⟩ | ⟨rfl, hb, hr, hx⟩
  · have hcb : (c != 0) = true := by simpa using hc
    simp only [hcb]
    exact ⟨(emptyG, c), rfl, rfl, small_empty⟩
  · simp only [d0, Bool.false_eq_true, if_false]
    rw [if_pos (by rfl), if_pos (by simp; omega)]
    exact ⟨(emptyG, 4), rfl, rfl, small_empty⟩
  · have G := h3.1 rfl
    have hlen := G.e.len
    have hids := G.e.ids
    rw [hr]
    simp only [d0, Bool.false_eq_true, if_false]
    have b60 : decide (60 < (l.length : Int)) = false := by simp; omega
    rw [b60, all_eq _ _ (by omega) (by omega)]
    simp only [bS, Bool.false_eq_true, if_false]
    cases ha : l.all fun x => decide (x ∈ g.IDs) with
    | false =>
      have hne : 0 < r.1.length := by
        rw [List.all_eq_false] at ha
        obtain ⟨x, hx1, hx2⟩ := ha
        have : x ∈ r.1 := (hx x).2 ⟨hx1, by simpa using hx2⟩
        exact List.length_pos_of_mem this
      have e1 : decide (0 < (r.1.length : Int)) = true := by simp; omega
      rw [e1]
      exact ⟨(emptyG, 6), rfl, rfl, small_empty⟩
    | true =>
      rw [List.all_eq_true] at ha
      have hin : ∀ x ∈ l, x ∈ g.IDs := fun x hx => by simpa using ha x hx
      have he : r.1.length = 0 := by
        cases hr1 : r.1 with
        | nil => rfl
        | cons a b =>
          have := (hx a).1 (by rw [hr1]; simp)
          exact absurd (hin a this.1) this.2
      obtain ⟨m, m1, m2⟩ := reach_eq G.e G.ins l hin (by omega)
      obtain ⟨s, s1, s2, s3⟩ := below10_L0 G.e G.ins l hb hin
      have hm : ∀ i, i < g.Ops.length → decide (idAt g i ∈ s) = m i := fun i hi => by
        have hii : i < g.IDs.length := by omega
        have hid : idAt g i ∈ g.IDs := by rw [idAt_get hii]; exact List.getElem_mem _
        rw [Bool.eq_iff_iff, decide_eq_true_iff, m2, s3, rch_split, idx_idAt G.e hi]
        constructor
        · rintro (h | ⟨x, h, _, hy⟩)
          · exact .inl (List.mem_map.2 ⟨_, h, idx_idAt G.e hi⟩)
          · exact .inr ⟨_, List.mem_map.2 ⟨x, h, rfl⟩, hy⟩
        · rintro (h | ⟨q, h, hy⟩)
          · obtain ⟨x, hxl, e⟩ := List.mem_map.1 h
            have := idAt_idx (hin x hxl)
            rw [e] at this
            rw [this]; exact .inl hxl
          · obtain ⟨x, hxl, e⟩ := List.mem_map.1 h
            rw [← e] at hy
            exact .inr ⟨x, hxl, hid, hy⟩
      obtain ⟨c1, c2⟩ := sub_congr g g.Ops.length hm
      have e1 : decide (0 < (r.1.length : Int)) = false := by rw [he]; rfl
      rw [e1, m1, app_eq (by simp; omega)]
      simp only [bS, List.nil_append, Bool.not_true, Bool.false_eq_true, if_false]
      rw [below_L1 G.e m, s1]
      simp only [bS]
      unfold braidref10_Part
      rw [part_L0 G.e s (by omega), c1, c2]
      simp only [bS]
      have tw := twin_eq (sub_small S hlen m)
      unfold subG at tw
      rw [tw]
      simp only [bS]
      exact ⟨(subG g m, 0), rfl, rfl, sub_small S hlen m⟩
theorem lists_true (a0 : api_Graph) (a1 : List ID) (w0 : wf_api_Graph a0) (_ : (∀ x ∈ a1, ∀ y ∈ x.toList, (fun _ => True) y) ∧ a1.length ≤ 9223372036854775807) : braidlaw10_AncestryLists a0 a1 = some true := by
  obtain ⟨b, b1, b2⟩ := great_eq a0
  unfold braidlaw10_AncestryLists
  rw [b1]
  simp only [bS]
  have t1 : ∀ (f : Unit → Option Bool), orRet (some (.inl true)) f = some true := fun _ => rfl
  cases b with
  | true => rfl
  | false =>
    have S := b2 rfl
    obtain ⟨c, c1, c2, c3⟩ := check_eq w0
    rw [if_neg (by simp)]
    have rest : a1.length ≤ 70 → (braidref09_Twin a0 >>= fun r10 =>
      app 32 ([] : List (Vector UInt8 32)) a1 >>= fun x13 =>
      ancestry_Missing r10 a1 >>= fun r17 =>
      braidref10_Missing a0 a1 >>= fun r19 =>
      ancestry_Order r10 >>= fun r21 =>
      braidref10_Order a0 >>= fun r23 =>
      ancestry_Below r10 a1 >>= fun r25 =>
      braidref10_Below a0 a1 >>= fun r28 =>
      braidref04_SameIDs r17.1 r19.1 >>= fun r31 =>
      if r31 then
        if r17.2 == r19.2 then
          braidref04_SameIDs r21.1 r23.1 >>= fun r35 =>
          if r35 then
            if r21.2 == r23.2 then
              braidref09_Same r25.1 r28.1 >>= fun r39 =>
              if r39 then
                if r25.2 == r28.2 then
                  braidref09_Same r10 a0 >>= fun r43 =>
                  if r43 then
                    braidref04_SameIDs a1 x13 >>= fun r46 =>
                    some r46
                  else
                    some false
                else
                  some false
              else
                some false
            else
              some false
          else
            some false
        else
          some false
      else
        some false) = some true := fun hl => by
      obtain ⟨r1, p1, p2, p3, _⟩ := missing_eq c1 c2 c3 a1 (by omega)
      obtain ⟨r2, p4, p5, p6⟩ := order10_eq c1 c2 c3
      obtain ⟨r3, p7, p8, p9⟩ := below_eq S c1 c2 c3 a1 (by omega)
      rw [twin_eq S, app_eq (by simp; omega)]
      simp only [bS, List.nil_append]
      rw [p1, p2]
      simp only [bS]
      rw [p4, p5]
      simp only [bS]
      rw [p7, p8]
      simp only [bS]
      rw [sameIDs_self _ (by omega)]
      simp only [bS]
      rw [if_pos trivial, if_pos (by simp), sameIDs_self _ (by omega)]
      simp only [bS]
      rw [if_pos trivial, if_pos (by simp), same_self p9]
      simp only [bS]
      rw [if_pos trivial, if_pos (by simp), same_self S]
      simp only [bS]
      rw [if_pos trivial, sameIDs_self _ (by omega)]
      simp only [bS]
    by_cases g1 : 20 < a1.length
    · rw [if_pos (by simp; omega)]
      by_cases g2 : a1.length ≤ 60
      · rw [if_pos (by simp; omega)]; rfl
      · rw [if_neg (by simp; omega)]
        by_cases g3 : 70 < a1.length
        · rw [if_pos (by simp; omega)]; rfl
        · rw [if_neg (by simp; omega)]
          exact rest (by omega)
    · rw [if_neg (by simp; omega), if_neg (by simp; omega)]
      exact rest (by omega)
end
end Go.Proofs.YtjnheeekdadcpaaGreatDoor
