/- Of this session: a machine of its own, proved beside the model, and what the functions of the row come to on it; Lean checks all of it. -/
import Derived.Test.YtiaibplflmjohaaLimR3T
set_option linter.unusedVariables false
set_option linter.unusedSimpArgs false
namespace Go.Proofs
open Go Go.Abs
set_option maxRecDepth 100000
theorem awakeRun : ((arun Try.prog (fun _ => none) 60 10 #[] Heap.nil).map fun r => veq r.1 (.bool true)) = some true := by kernel_rfl
theorem awakeTells : Tells Try.prog 10 (.bool true) := tells_of Try.checked.mixed (noOrc_ok _) rfl awakeRun
theorem orcOk : OrcOk Try.prog orcS := oneOrc_ok awakeTells
end Go.Proofs
