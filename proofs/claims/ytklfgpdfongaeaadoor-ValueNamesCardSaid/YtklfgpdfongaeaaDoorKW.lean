/- What the arguments of a row keep to. -/
import Derived.Test.YtklfgpdfongaeaaDoorKL
import Derived.Test.YtklfgpdfongaeaaDoorKT
namespace Go.Proofs.YtklfgpdfongaeaaDoor
open Go Go.RowKit
set_option linter.unusedSimpArgs false
set_option linter.unusedVariables false
def wf_api_Value (x : api_Value) : Prop := (fun _ => True) x.Kind ∧ inI x.Num ∧ (fun _ => True) x.Bits ∧ (fun s : List UInt8 => s.length ≤ 9223372036854775807) x.Text ∧ True
def wf_value_number (x : value_number) : Prop := (fun _ => True) x.neg ∧ (fun _ => True) x.end_ ∧ (fun _ => True) x.m ∧ inI x.e ∧ True
end Go.Proofs.YtklfgpdfongaeaaDoor
