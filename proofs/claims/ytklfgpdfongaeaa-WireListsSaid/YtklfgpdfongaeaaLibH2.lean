/- A slice cut in a region that draws its order. Over any program P. -/
import Derived.Test.YtklfgpdfongaeaaLibH
namespace Go.Proofs.Ytklfgpdfongaeaa
open Go Go.RowKit
set_option linter.unusedSimpArgs false
set_option linter.unusedVariables false

section
variable {P : Program} {ops : Array Oper} {Q : Exit → Act → World → Prop} {a : Act} {w : World} {n : Nat} {fl : List (Nat × Value)}
  {d : Tmp} {ty : TypeId} {pos : String} {after : Array Edge} {g : Option (Nat × Bool)} {S : World → Prop} {fuel : Nat} {listed listed' : Array Bool} {α : Type} {E : Enc α}
theorem h_cut {T e : TypeId} {x : Operand} {lo hi : Option Operand} {z : Value} {by_ i j cp : Nat} {p : Option Addr} {l l' : List α} (f : Frm n fl a) (ix : Nat)
    (hi' : ops[ix]? = some ⟨some d, .slice T x lo hi none, ty, pos, after, g⟩) (hs : Region.noSelect ops = true) (hf : Region.free .any ops listed ix = true) (hr' : (Region.ready .any ops listed).contains ix = true)
    (hQ : ∀ v c a w, Q (.panic c) (a.put (some d) v) w → Q (.panic c) a w) (hw : Region.wanted ⟨some d, .slice T x lo hi none, ty, pos, after, g⟩ (yielded ops a.tmps) = true) (hd : Nat.blt d n = true)
    (hT : P.underlying T = some (.slice e)) (hE : TI P e z E.sz by_) (hx : opv fl x = some (.slice p l.length cp)) (hr : RdL E w p cp l)
    (hlo : (lo = none ∧ i = 0) ∨ ∃ y k, lo = some y ∧ opv fl y = some (.int k (i : Int))) (hhi : (hi = none ∧ j = l.length) ∨ ∃ y k, hi = some y ∧ opv fl y = some (.int k (j : Int)))
    (hij : i ≤ j) (hj : j ≤ l.length) (hl : (l.drop i).take (j - i) = l') (hS : S w) (hls : listed.setIfInBounds ix true = listed')
    (k : ∀ a' p' c', Frm n ((d, .slice p' l'.length c') :: fl) a' → (∀ W, RdL E W p cp l → RdL E W p' c' l') → sblk p' = sblk p → wpAnyH P .any ops Q S fuel listed' a' w) :
    wpAnyH P .any ops Q S (fuel + 1) listed a w := by
  obtain ⟨p', c', h1, h2, h3⟩ := rt_cut (d := d) (ty := ty) (pos := pos) (after := after) (g := g) f hT hE hx hr hlo hhi hij hj hl
  exact h_take f ix hi' hs hf hr' (fun c a w => hQ _ c a w) hw hd (fun w' _ => h1 w') hS hls (fun a' f' => k a' p' c' f' h2 h3)
end
end Go.Proofs.Ytklfgpdfongaeaa
