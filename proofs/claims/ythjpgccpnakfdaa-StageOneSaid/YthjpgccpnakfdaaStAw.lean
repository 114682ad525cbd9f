/- Of this session: a machine of its own, proved beside the model, and what the functions of the row come to on it; Lean checks all of it. -/
import Derived.Test.YthjpgccpnakfdaaStA
set_option linter.unusedVariables false
set_option linter.unusedSimpArgs false
set_option linter.unusedSectionVars false
namespace Go.Proofs
open Go Go.Abs
set_option maxRecDepth 100000
theorem awakeRun : ((arun Try.prog (fun _ => none) 100 13 #[] Heap.nil).map fun r => veq r.1 (.bool true)) = some true := by kernel_rfl
theorem awakeTells : Tells Try.prog 13 (.bool true) := tells_of Try.checked.mixed (noOrc_ok _) rfl awakeRun
end Go.Proofs
