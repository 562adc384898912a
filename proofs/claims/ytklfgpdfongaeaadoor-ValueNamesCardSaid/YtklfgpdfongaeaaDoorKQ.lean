/- What == says of the data. -/
import Derived.Test.YtklfgpdfongaeaaDoorKE
import Derived.Test.YtklfgpdfongaeaaDoorKT
namespace Go.Proofs.YtklfgpdfongaeaaDoor
open Go Go.RowKit
set_option linter.unusedSimpArgs false
set_option linter.unusedVariables false
set_option maxRecDepth 100000 in
theorem eq24 : EqR Tryd.prog 24 R_api_Value 2 := EqR.struct (EqF.cons (EqR.u8 Tryd.underlying5) ty5 rfl (by decide) (EqF.cons (EqR.i64 Tryd.underlying2) ty2 rfl (by decide) (EqF.cons (EqR.u64 Tryd.underlying22) ty22 rfl (by decide) (EqF.cons (EqR.str Tryd.underlying9) ty9 rfl (by decide) EqF.nil)))) Tryd.underlying24 (by kernel_rfl) (fun x y h => by cases x; cases y; simpa using h) rfl
set_option maxRecDepth 100000 in
theorem gq24 : Tryd.prog.eqGuardType Tryd.prog.depth 24 = false := by kernel_rfl
set_option maxRecDepth 100000 in
theorem eq79 : EqR Tryd.prog 79 R_value_number 2 := EqR.struct (EqF.cons (EqR.bool Tryd.underlying4) ty4 rfl (by decide) (EqF.cons (EqR.bool Tryd.underlying4) ty4 rfl (by decide) (EqF.cons (EqR.u64 Tryd.underlying22) ty22 rfl (by decide) (EqF.cons (EqR.i64 Tryd.underlying3) ty3 rfl (by decide) EqF.nil)))) Tryd.underlying79 (by kernel_rfl) (fun x y h => by cases x; cases y; simpa using h) rfl
set_option maxRecDepth 100000 in
theorem gq79 : Tryd.prog.eqGuardType Tryd.prog.depth 79 = false := by kernel_rfl
set_option maxRecDepth 100000 in
theorem eq98 : EqR Tryd.prog 98 (arrR 64 u8R) 2 := EqR.arr (EqR.u8 Tryd.underlying5) Tryd.underlying98 ti5 ty5
set_option maxRecDepth 100000 in
theorem gq98 : Tryd.prog.eqGuardType Tryd.prog.depth 98 = false := by kernel_rfl
end Go.Proofs.YtklfgpdfongaeaaDoor
