/- What == says of the data. -/
import Derived.Test.YtklfgpdfongaeaaKE
import Derived.Test.YtklfgpdfongaeaaKT
namespace Go.Proofs.Ytklfgpdfongaeaa
open Go Go.RowKit
set_option linter.unusedSimpArgs false
set_option linter.unusedVariables false
set_option maxRecDepth 100000 in
theorem eq48 : EqR Try.prog 48 R_api_Value 2 := EqR.struct (EqF.cons (EqR.u8 Try.underlying5) ty5 rfl (by decide) (EqF.cons (EqR.i64 Try.underlying2) ty2 rfl (by decide) (EqF.cons (EqR.u64 Try.underlying31) ty31 rfl (by decide) (EqF.cons (EqR.str Try.underlying9) ty9 rfl (by decide) EqF.nil)))) Try.underlying48 (by kernel_rfl) (fun x y h => by cases x; cases y; simpa using h) rfl
set_option maxRecDepth 100000 in
theorem gq48 : Try.prog.eqGuardType Try.prog.depth 48 = false := by kernel_rfl
set_option maxRecDepth 100000 in
theorem eq66 : EqR Try.prog 66 R_api_Session 2 := EqR.struct (EqF.cons (EqR.u8 Try.underlying5) ty5 rfl (by decide) (EqF.cons (EqR.i64 Try.underlying3) ty3 rfl (by decide) (EqF.cons (EqR.i64 Try.underlying3) ty3 rfl (by decide) (EqF.cons (EqR.i64 Try.underlying3) ty3 rfl (by decide) EqF.nil)))) Try.underlying66 (by kernel_rfl) (fun x y h => by cases x; cases y; simpa using h) rfl
set_option maxRecDepth 100000 in
theorem gq66 : Try.prog.eqGuardType Try.prog.depth 66 = false := by kernel_rfl
set_option maxRecDepth 100000 in
theorem eq101 : EqR Try.prog 101 (arrR 32 u8R) 2 := EqR.arr (EqR.u8 Try.underlying5) Try.underlying101 ti5 ty5
set_option maxRecDepth 100000 in
theorem gq101 : Try.prog.eqGuardType Try.prog.depth 101 = false := by kernel_rfl
set_option maxRecDepth 100000 in
theorem eq102 : EqR Try.prog 102 (arrR 32 u8R) 2 := EqR.arr (EqR.u8 Try.underlying5) Try.underlying102 ti5 ty5
set_option maxRecDepth 100000 in
theorem gq102 : Try.prog.eqGuardType Try.prog.depth 102 = false := by kernel_rfl
set_option maxRecDepth 100000 in
theorem eq143 : EqR Try.prog 143 (arrR 5 u64R) 2 := EqR.arr (EqR.u64 Try.underlying142) Try.underlying143 ti142 ty142
set_option maxRecDepth 100000 in
theorem gq143 : Try.prog.eqGuardType Try.prog.depth 143 = false := by kernel_rfl
set_option maxRecDepth 100000 in
theorem eq145 : EqR Try.prog 145 R_api_Meet 2 := EqR.struct (EqF.cons (EqR.i64 Try.underlying3) ty3 rfl (by decide) (EqF.cons (EqR.i64 Try.underlying3) ty3 rfl (by decide) EqF.nil)) Try.underlying145 (by kernel_rfl) (fun x y h => by cases x; cases y; simpa using h) rfl
set_option maxRecDepth 100000 in
theorem gq145 : Try.prog.eqGuardType Try.prog.depth 145 = false := by kernel_rfl
set_option maxRecDepth 100000 in
theorem eq148 : EqR Try.prog 148 (arrR 5 boolR) 2 := EqR.arr (EqR.bool Try.underlying4) Try.underlying148 ti4 ty4
set_option maxRecDepth 100000 in
theorem gq148 : Try.prog.eqGuardType Try.prog.depth 148 = false := by kernel_rfl
set_option maxRecDepth 100000 in
theorem eq149 : EqR Try.prog 149 (arrR 5 (arrR 5 boolR)) 3 := EqR.arr eq148 Try.underlying149 ti148 ty148
set_option maxRecDepth 100000 in
theorem gq149 : Try.prog.eqGuardType Try.prog.depth 149 = false := by kernel_rfl
set_option maxRecDepth 100000 in
theorem eq161 : EqR Try.prog 161 R_session_rule 2 := EqR.struct (EqF.cons (EqR.u8 Try.underlying5) ty5 rfl (by decide) (EqF.cons (EqR.u8 Try.underlying5) ty5 rfl (by decide) (EqF.cons (EqR.u8 Try.underlying5) ty5 rfl (by decide) (EqF.cons (EqR.u8 Try.underlying5) ty5 rfl (by decide) EqF.nil)))) Try.underlying161 (by kernel_rfl) (fun x y h => by cases x; cases y; simpa using h) rfl
set_option maxRecDepth 100000 in
theorem gq161 : Try.prog.eqGuardType Try.prog.depth 161 = false := by kernel_rfl
end Go.Proofs.Ytklfgpdfongaeaa
