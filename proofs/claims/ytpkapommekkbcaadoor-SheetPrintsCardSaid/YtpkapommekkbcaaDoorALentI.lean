import Derived.Test.YtpkapommekkbcaaDoorALentP
import Derived.Test.YtpkapommekkbcaaDoorRegX
import Derived.Test.YtpkapommekkbcaaDoorACheck
set_option linter.unusedSimpArgs false
set_option linter.unusedVariables false
namespace Go.Proofs.YtpkapommekkbcaaDoor
open Go Go.RowKit

theorem prop_info : (Tryd.prog.info? 57).map (fun i => (i.zero, i.size, i.bytes)) = some (some (.agg #[.string { data := #[] }, .string { data := #[] }]), 2, 32) := by kernel_rfl
theorem ref_info : (Tryd.prog.info? 60).map (fun i => (i.zero, i.size, i.bytes)) = some (some (.agg #[.string { data := #[] }, .int .i64 0]), 2, 24) := by kernel_rfl
theorem node_info : (Tryd.prog.info? 37).map (fun i => (i.zero, i.size, i.bytes)) = some (some (.agg #[.int .i64 0, .string { data := #[] }, .int .i64 0, .string { data := #[] }, .slice none 0 0, .slice none 0 0, .slice none 0 0]), 7, 120) := by kernel_rfl
/-- lists no longer than what can be read -/
def LensOK (x : ANode) : Prop := x.props.length * 32 ≤ 140737488351232 ∧ x.kids.length * 8 ≤ 140737488351232 ∧ x.refs.length * 24 ≤ 140737488351232
end Go.Proofs.YtpkapommekkbcaaDoor
