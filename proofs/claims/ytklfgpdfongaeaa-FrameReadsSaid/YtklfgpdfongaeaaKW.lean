/- What the arguments of a row keep to. -/
import Derived.Test.YtklfgpdfongaeaaKL
import Derived.Test.YtklfgpdfongaeaaKT
namespace Go.Proofs.Ytklfgpdfongaeaa
open Go Go.RowKit
set_option linter.unusedSimpArgs false
set_option linter.unusedVariables false
def wf_api_Value (x : api_Value) : Prop := (fun _ => True) x.Kind ∧ inI x.Num ∧ (fun _ => True) x.Bits ∧ (fun s : List UInt8 => s.length ≤ 9223372036854775807) x.Text ∧ True
def wf_api_Session (x : api_Session) : Prop := (fun _ => True) x.State ∧ inI x.Faults ∧ inI x.Frames ∧ inI x.Ops ∧ True
def wf_api_Frame (x : api_Frame) : Prop := (fun _ => True) x.Kind ∧ (fun _ => True) x.N ∧ (fun l : List (Vector UInt8 32) => (∀ x ∈ l, (fun v : Vector UInt8 32 => ∀ x ∈ v.toList, (fun _ => True) x) x) ∧ l.length ≤ 9223372036854775807) x.IDs ∧ (fun l : List (List UInt8) => (∀ x ∈ l, (fun l : List UInt8 => (∀ x ∈ l, (fun _ => True) x) ∧ l.length ≤ 9223372036854775807) x) ∧ l.length ≤ 9223372036854775807) x.Ops ∧ True
def wf_api_Doing (x : api_Doing) : Prop := (fun _ => True) x.Kind ∧ wf_api_Frame x.Frame ∧ True
def wf_api_Meet (x : api_Meet) : Prop := inI x.A ∧ inI x.B ∧ True
def wf_session_rule (x : session_rule) : Prop := (fun _ => True) x.state ∧ (fun _ => True) x.kind ∧ (fun _ => True) x.next ∧ (fun _ => True) x.do_ ∧ True
end Go.Proofs.Ytklfgpdfongaeaa
